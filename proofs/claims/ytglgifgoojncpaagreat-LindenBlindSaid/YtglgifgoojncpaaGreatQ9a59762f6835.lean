/- Part 9 of what the proofs of this seat rest on: see the last text of the claim. -/
import Derived.Test.YtglgifgoojncpaaGreatQ7be8d90a30c2
import Derived.Test.YtglgifgoojncpaaGreatProg
set_option linter.unusedSimpArgs false
set_option linter.unusedVariables false
set_option linter.ambiguousOpen false
set_option maxRecDepth 20000
namespace Go.Proofs.YtglgifgoojncpaaGreat
section
open Mod
def toCf (c : Mod.Cf) : Proofs.YtglgifgoojncpaaGreat.Cf := ⟨c.algo, c.threads, c.nodes, c.level, c.batch, c.probes, c.scan⟩
theorem toCf_right (c : Mod.Cf) : (toCf c).Right ↔ okC c = true := by
  unfold okC
  rw [decide_eq_true_iff]
  constructor
  · rintro ⟨a1, a2, a3, a4, a5, a6, a7, a8⟩
    exact ⟨a1.1, a1.2, a2.1, a2.2, a3.1, a3.2, a4.1, a4.2, a5.1, a5.2, a6.1, a6.2, a7.1, a7.2, a8⟩
  · rintro ⟨b1, b2, b3, b4, b5, b6, b7, b8, b9, b10, b11, b12, b13, b14, b15⟩
    exact ⟨⟨b1, b2⟩, ⟨b3, b4⟩, ⟨b5, b6⟩, ⟨b7, b8⟩, ⟨b9, b10⟩, ⟨b11, b12⟩, ⟨b13, b14⟩, b15⟩
theorem toCf_plan (c : Mod.Cf) : Value.agg (toCf c).plan = plV (planOf c) := by
  unfold plV planOf Proofs.YtglgifgoojncpaaGreat.Cf.plan Cf.size Cf.tree Cf.nodes Cf.links Cf.slots Cf.width Cf.sent toCf
  simp only [beq_iff_eq]
theorem planNew_call {K : Value → Heap → Prop} {h : Heap} (c : Mod.Cf) (k1 : okC c = true → ∀ h', Old h.size h h' → K (.tuple #[plV (planOf c), .int .i64 0]) h') (k0 : okC c = false → ∀ h', Old h.size h h' → K (.tuple #[.agg zeros15, .int .i64 6]) h') :
    CallH Tryz.prog 30 #[cfV c] h K := by
  refine new_plan (toCf c) (fun hr h' o => ?_) (fun hr h' o => k0 ?_ h' o)
  · rw [toCf_plan]; exact k1 ((toCf_right c).1 hr) h' o
  · rw [← Bool.not_eq_true]; exact fun hh => hr ((toCf_right c).2 hh)
theorem planOf_B {c : Mod.Cf} (h : okC c = true) : PlB (planOf c) := by
  unfold okC at h
  rw [decide_eq_true_iff] at h
  obtain ⟨b1, b2, b3, b4, b5, b6, b7, b8, b9, b10, b11, b12, b13, b14, b15⟩ := h
  have h1 : c.threads * (if c.algo == 0 then 2 else 2 * c.level + 2) ≤ 6 * 14 := by
    split
    · omega
    · exact Int.mul_le_mul (by omega) (by omega) (by omega) (by omega)
  have h1' : 0 ≤ c.threads * (if c.algo == 0 then 2 else 2 * c.level + 2) := Int.mul_nonneg (by omega) (by split <;> omega)
  have h2 : c.nodes * (if c.algo == 0 then 3 else 5 + c.level) ≤ 64 * 11 := by
    split
    · omega
    · exact Int.mul_le_mul (by omega) (by omega) (by omega) (by omega)
  have h2' : 0 ≤ c.nodes * (if c.algo == 0 then 3 else 5 + c.level) := Int.mul_nonneg (by omega) (by split <;> omega)
  have h3 : (2 : Int) ^ c.level.toNat ≤ 64 := by
    obtain ⟨n, hn⟩ : ∃ n, c.level.toNat = n := ⟨_, rfl⟩
    rw [hn]
    have hn6 : n ≤ 6 := by omega
    match n, hn6 with
    | 0, _ => decide
    | 1, _ => decide
    | 2, _ => decide
    | 3, _ => decide
    | 4, _ => decide
    | 5, _ => decide
    | 6, _ => decide
  have h3' : 0 ≤ (2 : Int) ^ c.level.toNat := Int.pow_nonneg (by omega)
  unfold planOf
  dsimp only
  generalize c.threads * (if c.algo == 0 then 2 else 2 * c.level + 2) = A at *
  generalize c.nodes * (if c.algo == 0 then 3 else 5 + c.level) = B at *
  generalize (2 : Int) ^ c.level.toNat = D at *
  constructor <;> dsimp only <;> first | omega | (split <;> omega)
theorem lift_join {D E : Nat → Prop} {F G : Heap → Prop} (σ : Frag) (h : (lift D F * lift E G) σ) : lift (fun b => D b ∨ E b) (fun h => F h ∧ G h) σ := by
  obtain ⟨s, t, d, rfl, ⟨a1, a2⟩, b1, b2⟩ := h
  refine ⟨fun b => ?_, fun h S => ⟨a2 h S.left, b2 h (S.right d)⟩⟩
  have := uni_none (σ := s) (τ := t) (b := b)
  show D b ∨ E b ↔ uni s t b ≠ none
  rw [a1, b1, ne_eq, ne_eq, ne_eq, this]
  by_cases e1 : s b = none <;> by_cases e2 : t b = none <;> simp [e1, e2]
theorem pt_lift {b : Nat} {o : Obj} (σ : Frag) (h : pt b o σ) : lift (fun c => c = b) (fun h => h[b]? = some o) σ := by
  refine ⟨fun c => ?_, fun h' S => S.at b o (by rw [h b, if_pos rfl])⟩
  rw [h c]
  by_cases e : c = b <;> simp [e]
theorem byt_u64 : byt Tryz.prog 65 = 8 := by kernel_rfl
theorem zcells_u64 : zcells Tryz.prog 65 = [.int .u64 0] := by kernel_rfl
theorem zcells_i : zcells Tryz.prog 3 = [.int .i64 0] := by kernel_rfl
theorem byt_i : byt Tryz.prog 3 = 8 := by kernel_rfl
theorem flat_rep {v : Value} (n : Nat) : (List.replicate n [v]).flatten = List.replicate n v := by rw [List.flatten_replicate_singleton]
theorem make_u64 {K : Value → Heap → Prop} {h : Heap} {n : Int} (hn : 0 ≤ n ∧ n ≤ 4096) (k : K (.slice (some ⟨h.size, 0, none⟩) n.toNat n.toNat) (h.push (.cells (uvs (List.replicate n.toNat 0)).toArray 65))) : mkSlH Tryz.prog 65 n n h K := by
  unfold mkSlH
  refine ⟨by omega, by omega, by omega, by rw [byt_u64]; omega, ?_⟩
  rw [zcells_u64, flat_rep]
  have e : uvs (List.replicate n.toNat 0) = List.replicate n.toNat (.int .u64 0) := by unfold uvs; rw [List.map_replicate]
  rw [e] at k
  exact k
theorem make_i {K : Value → Heap → Prop} {h : Heap} {n : Int} (hn : 0 ≤ n ∧ n ≤ 4096) (k : K (.slice (some ⟨h.size, 0, none⟩) n.toNat n.toNat) (h.push (.cells ((List.replicate n.toNat (0 : Int)).map iv).toArray 3))) : mkSlH Tryz.prog 3 n n h K := by
  unfold mkSlH
  refine ⟨by omega, by omega, by omega, by rw [byt_i]; omega, ?_⟩
  rw [zcells_i, flat_rep]
  rw [List.map_replicate] at k
  exact k
theorem memNew_call {K : Value → Heap → Prop} {h : Heap} {R : Hp} {n : Int} (H : Sat h R) (hn : 1 ≤ n ∧ n ≤ 4096) (k : ∀ h' q, Sat h' (memS q ⟨List.replicate n.toNat 0, 0, false, []⟩ * R) → K (.tuple #[mP q, .int .i64 0]) h') :
    CallH Tryz.prog 31 #[.int .i64 n] h K := by
  refine call31 ?_
  unfold F31
  refine ⟨fun vs h' => vs = [.bool false] ∧ h' = h, ?_, ?_⟩
  · refine ifB_dec (fun c => by omega) (fun c => ?_)
    rw [decide_eq_false (by omega)]
    exact ⟨rfl, rfl⟩
  rintro v1 g2 h3 ⟨e, rfl⟩
  cases e
  try simp only [nilC, bsx, Nat.reduceAdd, Int.reduceLE, Int.reduceLT, Int.reduceToNat]
  refine make_u64 (by omega) ?_
  try simp only [nilC, bsx, Nat.reduceAdd, Int.reduceLE, Int.reduceLT, Int.reduceToNat]
  have H1 := H.push (.cells (uvs (List.replicate n.toNat 0)).toArray 65)
  generalize h3.push (.cells (uvs (List.replicate n.toNat 0)).toArray 65) = h4 at *
  have H2 := H1.push (.cells #[.slice (some ⟨h3.size, 0, none⟩) n.toNat n.toNat, .int .i64 0, .bool false, .slice none 0 0] 110)
  have H3 := H2.own_new 173 4
  refine k _ h4.size (memS_iff.2 ⟨h3.size, none, 0, ⟨by simp; omega, by simp, by simp, fun v hv => by rw [List.eq_of_mem_replicate hv]; exact U0⟩, ?_⟩)
  have e : (memC h3.size none 0 ⟨List.replicate n.toNat 0, 0, false, []⟩).toArray = #[.slice (some ⟨h3.size, 0, none⟩) n.toNat n.toNat, .int .i64 0, .bool false, .slice none 0 0] := by
    simp [memC]
  rw [e]
  exact Sat.ac H3 (by
    show ownS 173 4 none 0 0 [] * _ = _ * (_ * (ownS 173 4 none 0 0 [] * _))
    ac_rfl)
theorem wfit1 {K : Value → Heap → Prop} {h : Heap} {B : Nat} {v lim : Int} (O : h[B]? = some (.cells #[.int .u64 v] 65)) (k : K (.bool (decide (v < lim))) h) :
    CallH Tryz.prog 197 #[.int .u64 lim, .slice (some ⟨B, 0, none⟩) 1 1] h K := by
  refine call197 ?_
  unfold F197 bd lI
  refine ⟨fun vs h' => ∃ w n, vs = [.bool false, w, .int .i64 n] ∧ h' = h ∧ (n = 0 ∨ n = 1 ∧ v < lim), fun vs _ => match vs with | [_, _, .int _ n] => (1 - n).toNat | _ => 0, ⟨_, 0, rfl, rfl, .inl rfl⟩, ?_⟩
  rintro v2 v3 v4 g5 h6 ⟨w, n, e, rfl, hn⟩
  cases e
  try simp only [nilC, bsx, Nat.reduceAdd, Int.reduceLE, Int.reduceLT, Int.reduceToNat]
  refine ifB_dec (fun c => ?_) (fun c => ?_)
  · have hn0 : n = 0 := by omega
    subst hn0
    try simp only [nilC, bsx, Nat.reduceAdd, Int.reduceLE, Int.reduceLT, Int.reduceToNat]
    refine ⟨by decide, ?_⟩
    refine ldR O rfl ?_
    try simp only [nilC, bsx, Nat.reduceAdd, Int.reduceLE, Int.reduceLT, Int.reduceToNat]
    refine ifB_dec (fun c2 => ?_) (fun c2 => ?_)
    · rw [decide_eq_false (by omega)] at k; exact k
    · exact ⟨⟨_, 1, rfl, .inr ⟨rfl, by omega⟩⟩, by decide⟩
  · rw [decide_eq_true (by omega)] at k; exact k
theorem wMake_call {K : Value → Heap → Prop} {h : Heap} {R : Hp} {n ver : Int} {mk : Bool} (H : Sat h R) (hn : 0 ≤ n ∧ n < 65536) (hv : 0 ≤ ver ∧ ver < 140737488355328) (k : ∀ h', Sat h' R → K (.tuple #[.int .u64 (wpack n mk ver), .int .i64 0]) h') :
    CallH Tryz.prog 127 #[.int .i64 n, .bool mk, .int .u64 ver] h K := by
  refine call127 ?_
  unfold F127 cf
  have e1 : IntKind.wrap .u64 n = n := U.wrap ⟨by omega, by omega⟩
  simp only [e1]
  refine ⟨fun vs h' => (∃ w, vs = [w, .bool false]) ∧ Sat h' R, ?_, ?_⟩
  · refine ifB_dec (fun c => by omega) (fun c => ?_)
    have H1 := H.push (.cells #[.int .u64 n] 65)
    generalize h.push (.cells #[.int .u64 n] 65) = h1 at *
    refine callV_fn (wfit1 H1.at ?_)
    rw [decide_eq_true (by omega)]
    try simp only [nilC, bsx, Nat.reduceAdd, Int.reduceLE, Int.reduceLT, Int.reduceToNat]
    have H2 := H1.push (.cells #[.int .u64 ver] 65)
    generalize h1.push (.cells #[.int .u64 ver] 65) = h2 at *
    refine callV_fn (wfit1 H2.at ?_)
    rw [decide_eq_true (by omega)]
    try simp only [nilC, bsx, Nat.reduceAdd, Int.reduceLE, Int.reduceLT, Int.reduceToNat]
    exact ⟨⟨_, rfl⟩, H2.drop.drop⟩
  rintro v7 v8 g9 h10 ⟨⟨w, e⟩, H1⟩
  cases e
  try simp only [nilC, bsx, Nat.reduceAdd, Int.reduceLE, Int.reduceLT, Int.reduceToNat]
  refine callV_fn (wPack_call hn hv ?_)
  try simp only [nilC, bsx, Nat.reduceAdd, Int.reduceLE, Int.reduceLT, Int.reduceToNat]
  exact k _ H1
theorem link_call {K : Value → Heap → Prop} {h : Heap} {R : Hp} {n : Int} (H : Sat h R) (hn : 0 ≤ n ∧ n < 65536) (k : ∀ h', Sat h' R → K (.int .u64 (wpack n false 0)) h') :
    CallH Tryz.prog 64 #[.int .i64 n] h K := by
  refine call64 ?_
  unfold F64 cf
  refine callV_fn (wMake_call H hn (by omega) fun h1 H1 => ?_)
  try simp only [nilC, bsx, Nat.reduceAdd, Int.reduceLE, Int.reduceLT, Int.reduceToNat]
  refine elemH_mk rfl ?_
  try simp only [nilC, bsx, Nat.reduceAdd, Int.reduceLE, Int.reduceLT, Int.reduceToNat]
  refine elemH_mk rfl ?_
  try simp only [nilC, bsx, Nat.reduceAdd, Int.reduceLE, Int.reduceLT, Int.reduceToNat]
  exact k _ H1
theorem mStore {K : Value → Heap → Prop} {h : Heap} {q : Nat} {m : Mm} {R : Hp} {a v : Int} (H : Sat h (memS q m * R)) (hv : U v) (hs : m.st < 1099511627776)
    (k : ∀ h' e, Sat h' (memS q (m.store a v) * R) → K (.int .i64 e) h') :
    CallH Tryz.prog 63 #[mP q, .int .i64 a, .int .u64 v] h K := by
  refine mStore_call H hv hs (fun c h' H' => k h' 0 ?_) (fun c h' H' => k h' 2 ?_)
  · unfold Mm.store; rw [if_pos c]; exact H'
  · unfold Mm.store; rw [if_neg (by rw [c]; simp)]; exact H'
theorem store_st (m : Mm) (a v : Int) : (m.store a v).st ≤ m.st + 1 := by
  unfold Mm.store Mm.put Mm.tick
  split
  · exact Int.le_refl _
  · omega
end
section
open Mod
def tagsN (n i : Int) : List Int := (List.range n.toNat).map fun (k : Nat) => if (k : Int) < i then 1 else 0
theorem tagsN_set {n i : Int} (h0 : 0 ≤ i) : (tagsN n i).set i.toNat 1 = tagsN n (i + 1) := by
  apply List.ext_getElem
  · simp [tagsN]
  · intro k h1 h2
    rw [List.getElem_set]
    simp only [tagsN, List.getElem_map, List.getElem_range]
    split
    · rename_i e; rw [if_pos (by omega)]
    · rename_i e
      by_cases c : (k : Int) < i
      · rw [if_pos c, if_pos (by omega)]
      · rw [if_neg c, if_neg (by omega)]
theorem tagsN_zero (n : Int) : tagsN n 0 = List.replicate n.toNat 0 := by
  apply List.ext_getElem
  · simp [tagsN]
  · intro k h1 h2
    simp only [tagsN, List.getElem_map, List.getElem_range, List.getElem_replicate]
    rw [if_neg (by omega)]
theorem ghostNew_call {K : Value → Heap → Prop} {h : Heap} {R : Hp} {n live : Int} (H : Sat h R) (hn : 1 ≤ n ∧ n ≤ 64) (hl : 0 ≤ live ∧ live ≤ n) (k : ∀ h' q, Sat h' (ghS (some (ghNew n live)) q * R) → K (mP q) h') :
    CallH Tryz.prog 35 #[.int .i64 n, .int .i64 live] h K := by
  refine call35 ?_
  unfold F35 bd lS
  refine ⟨fun vs h' => vs = [.int .i64 n] ∧ h' = h, ?_, ?_⟩
  · refine ⟨fun vs h' => vs = [.bool false] ∧ h' = h, ?_, ?_⟩
    · refine ifB_dec (fun c => by omega) (fun c => ?_)
      rw [decide_eq_false (by omega)]
      exact ⟨rfl, rfl⟩
    rintro v1 g2 h3 ⟨e, rfl⟩
    cases e
    try simp only [nilC, bsx, Nat.reduceAdd, Int.reduceLE, Int.reduceLT, Int.reduceToNat]
    try exact ⟨rfl, rfl⟩
  rintro v6 g7 h8 ⟨e, rfl⟩
  cases e
  try simp only [nilC, bsx, Nat.reduceAdd, Int.reduceLE, Int.reduceLT, Int.reduceToNat]
  refine make_i (by omega) ?_
  try simp only [nilC, bsx, Nat.reduceAdd, Int.reduceLE, Int.reduceLT, Int.reduceToNat]
  rw [minmax_int, minmax_int]
  rw [show min2I (max2I live 0) n = live by unfold min2I max2I; split <;> split <;> omega]
  have H1 := H.push (.cells ((List.replicate n.toNat (0 : Int)).map iv).toArray 3)
  generalize h8.push (.cells ((List.replicate n.toNat (0 : Int)).map iv).toArray 3) = h9 at *
  generalize h8.size = b at *
  have H2 := H1.push (.cells #[.slice (some ⟨b, 0, none⟩) n.toNat n.toNat, .int .i64 0, .int .i64 0] 138)
  generalize h9.push (.cells #[.slice (some ⟨b, 0, none⟩) n.toNat n.toNat, .int .i64 0, .int .i64 0] 138) = h10 at *
  generalize h9.size = q at *
  rw [← tagsN_zero] at H2
  have hlen : ∀ i, (tagsN n i).length = n.toNat := fun i => by simp [tagsN]
  refine ⟨fun vs h' => ∃ (w : Value) (i : Int), vs = [w, .int .i64 i] ∧ 0 ≤ i ∧ i ≤ live ∧ Sat h' (pt q (.cells #[.slice (some ⟨b, 0, none⟩) n.toNat n.toNat, .int .i64 0, .int .i64 0] 138) * (pt b (.cells ((tagsN n i).map iv).toArray 3) * R)), fun vs _ => match vs with | [_, .int _ i] => (live - i).toNat | _ => 0, ⟨_, 0, rfl, by omega, by omega, H2⟩, ?_⟩
  rintro v24 v25 g26 h27 ⟨w, i, e, i0, i1, H3⟩
  cases e
  try simp only [nilC, bsx, Nat.reduceAdd, Int.reduceLE, Int.reduceLT, Int.reduceToNat]
  refine ifB_dec (fun c => ?_) (fun c => ?_)
  · refine H3.ld rfl ?_
    try simp only [nilC, bsx, Nat.reduceAdd, Int.reduceLE, Int.reduceLT, Int.reduceToNat]
    refine ⟨by omega, by omega, ?_⟩
    rw [star_left] at H3
    refine st_nat (row := (tagsN n i).map iv) H3 (by simp [hlen]; omega) trivial fun h28 H4 => ?_
    have e1 : ((tagsN n i).map iv).set i.toNat (.int .i64 1) = (tagsN n (i + 1)).map iv := by
      rw [← tagsN_set i0, List.map_set]
    rw [e1, star_left] at H4
    rw [show s64 (i + 1) = i + 1 from by unfold s64; omega]
    exact ⟨⟨_, i + 1, rfl, by omega, by omega, H4⟩, by omega⟩
  · have ei : i = live := by omega
    subst ei
    refine k _ q ?_
    have hg : ghNew n i = ⟨tagsN n i, 0, 0⟩ := rfl
    rw [hg]
    show Sat h27 ((ex fun b => lift (wdS q b) fun h => GhF h q b ⟨tagsN n i, 0, 0⟩) * R)
    refine Sat.ex.2 ⟨b, ?_⟩
    rw [← star_assoc] at H3
    refine H3.mono fun σ hσ => ?_
    obtain ⟨s, t, d, rfl, p1, p2⟩ := hσ
    have J := lift_join _ ⟨s, t, d, rfl, pt_lift _ p1, pt_lift _ p2⟩
    refine ⟨J.1, fun h S => ?_⟩
    obtain ⟨j1, j2⟩ := J.2 h S
    refine ⟨?_, j2, by simp [hlen]; omega⟩
    rw [j1]
    simp [hlen]
theorem und_u8 : und Tryz.prog 26 = .slice 5 := by kernel_rfl
theorem there_u8 : there Tryz.prog 5 = true := by kernel_rfl
theorem zer_u8 : zer Tryz.prog 5 = some (.int .u8 0) := by kernel_rfl
theorem siz_u8 : siz Tryz.prog 5 = 1 := by kernel_rfl
theorem byt_u8 : byt Tryz.prog 5 = 1 := by kernel_rfl
theorem feedNew_call {K : Value → Heap → Prop} {h : Heap} {R : Hp} {a : Option Addr} {c : Nat} {bs : List Int} (H : Sat h R) (hs : Sees h a (bs.map fun n => .int .u8 n)) (hl : bs.length ≤ 65536) (hr : ∀ n ∈ bs, 0 ≤ n ∧ n < 256) (k : ∀ h' q, Sat h' (fdS q bs 0 * R) → K (mP q) h') :
    CallH Tryz.prog 34 #[.slice a bs.length c] h K := by
  refine call34 ?_
  unfold F34
  have o1 : Old h.size h (h.push (.cells #[] 5)) := (Old.refl _ _).push _ (Nat.le_refl _)
  have H1 := H.push (.cells #[] 5)
  have hs1 := hs.old o1
  have sz : (h.push (.cells #[] 5)).size = h.size + 1 := by simp
  have ow : Own (h.push (.cells #[] 5)) 5 (siz Tryz.prog 5) (some ⟨h.size, 0, none⟩) 0 0 [] := ⟨by simp, Nat.le_refl _, .inr ⟨h.size, #[], rfl, H1.at, by simp, by simp⟩⟩
  generalize h.push (.cells #[] 5) = h1 at *
  refine appH_own2 und_u8 there_u8 zer_u8 (by rw [siz_u8]; rfl) ow hs1 (by rw [siz_u8]; simp) (fun y hy => ?_) (by rw [byt_u8]; omega) (by rw [byt_u8]; omega) fun a' c' h2 o' hsz old ha => ?_
  · obtain ⟨n, _, rfl⟩ := List.mem_map.1 hy
    trivial
  rw [Nat.zero_add] at o' ⊢
  try simp only [nilC, bsx, Nat.reduceAdd, Int.reduceLE, Int.reduceLT, Int.reduceToNat]
  have o2 : Old h.size h h2 := ⟨by omega, fun b hb => (old b (by omega) fun ad ea => by cases ea; exact fun e => by simp at e; omega).trans (o1.2 b hb)⟩
  have fb : ∀ b, blk a' b → h.size ≤ b := by
    rintro b ⟨ad, e, rfl⟩
    rcases ha with ha | ⟨ha, _⟩
    · rw [e] at ha; cases ha; exact Nat.le_refl _
    · rw [e] at ha; cases ha; show h.size ≤ h1.size; omega
  have o3 : Old h.size h (h2.push (.cells #[.slice a' bs.length c', .int .i64 0] 134)) := o2.push _ o2.1
  have q1 : (h2.push (.cells #[.slice a' bs.length c', .int .i64 0] 134))[h2.size]? = some (.cells #[.slice a' bs.length c', .int .i64 0] 134) := by simp
  have o4 := o'.keep (h' := h2.push (.cells #[.slice a' bs.length c', .int .i64 0] 134)) fun ad ea => push_old _ _ _ (o'.lt ad ea)
  have nq : ¬ blk a' h2.size := fun hb => Nat.lt_irrefl _ (o'.lt2 hb)
  have sz3 : (h2.push (.cells #[.slice a' bs.length c', .int .i64 0] 134)).size = h2.size + 1 := by simp
  have lt2 : ∀ b, blk a' b → b < h2.size := fun b hb => o'.lt2 hb
  generalize h2.push (.cells #[.slice a' bs.length c', .int .i64 0] 134) = h3 at *
  have hsz2 := o2.1
  refine k h3 h2.size (Sat.ex.2 ⟨a', Sat.ex.2 ⟨c', H.mk_new o3 (fun b hb => ?_) (fun b o hb e => ?_) fun h4 e => ?_⟩⟩)
  · rcases hb with rfl | ⟨hb, _⟩
    · exact ⟨hsz2, by omega⟩
    · exact ⟨fb b hb, by have := lt2 b hb; omega⟩
  · rcases hb with rfl | ⟨hb, _⟩
    · rw [q1] at e; cases e
      intro x hx; cases hx
    · exact o4.nd b o hb e
  · refine ⟨?_, ?_, hr, by omega, nq⟩
    · rw [e _ (.inl rfl), q1]
    · by_cases c0 : bs = []
      · subst c0; exact Sees.nil _ _
      · have o5 := o4.keep (h' := h4) fun ad ea => e _ (.inr ⟨⟨ad, ea, rfl⟩, c0⟩)
        exact o5.sees
end
section
open Mod
def layM (p : Pl) (m0 : Mm) : Mm :=
  let c := p.c
  let first := p.sent + 1
  let m1 := m0.store 0 (wpack first false 0)
  let m2 := (List.range (c.nodes - first).toNat).foldl (fun (m : Mm) (i : Nat) => m.store (p.link (first + i)) (first + i + 1)) m1
  let m3 := m2.store 2 1
  if c.algo = 0 then m3 else
    let m4 := m3.store (p.node 1 3) c.level
    let m5 := m4.store (p.node 2 0) 18446744073709551615
    (List.range c.level.toNat).foldl (fun (m : Mm) (i : Nat) => m.store (p.node 1 (5 + i)) (wpack 2 false 0)) m5
theorem lay_layM (p : Pl) : lay p = layM p ⟨List.replicate p.size.toNat 0, 0, false, []⟩ := rfl
theorem fold_st (a v : Nat → Int) (m : Mm) (n : Nat) : ((List.range n).foldl (fun (m : Mm) (i : Nat) => m.store (a i) (v i)) m).st ≤ m.st + n := by
  induction n with
  | zero => simp
  | succ n ih =>
    rw [List.range_succ, List.foldl_append]
    simp only [List.foldl_cons, List.foldl_nil]
    have := store_st ((List.range n).foldl (fun (m : Mm) (i : Nat) => m.store (a i) (v i)) m) (a n) (v n)
    omega
theorem fold_next (a v : Nat → Int) (m : Mm) (n : Nat) : ((List.range n).foldl (fun (m : Mm) (i : Nat) => m.store (a i) (v i)) m).store (a n) (v n) = (List.range (n + 1)).foldl (fun (m : Mm) (i : Nat) => m.store (a i) (v i)) m := by
  rw [List.range_succ, List.foldl_append]
  rfl
theorem wpack_U0 {n : Int} (h : 0 ≤ n ∧ n < 65536) : U (wpack n false 0) := wpack_U h (by omega)
theorem lay_call {K : Value → Heap → Prop} {h : Heap} {R : Hp} {q : Nat} {m0 : Mm} {p : Pl} (H : Sat h (memS q m0 * R)) (P : PlB p) (h0 : m0.st = 0) (hsn : p.sent < p.c.nodes) (k : ∀ h', Sat h' (memS q (layM p m0) * R) → K (.tuple #[]) h') :
    CallH Tryz.prog 33 #[mP q, plV p] h K := by
  refine call33 ?_
  unfold F33 g33 cf ce lI
  have hse := P.se
  have hno := P.no
  have hlv := P.lv
  rw [plLoc]
  have H1 := H.push (.cells (plc p).toArray 69)
  generalize h.push (.cells (plc p).toArray 69) = h1 at *
  generalize h.size = Np at *
  refine rd15 H1.at ?_
  refine callV_fn (plConf_call fun h2 o2 => cf7 ?_)
  have H2 := H1.old o2
  have H3 := H2.push (.cells #[.int .i64 0, .int .i64 0, .int .i64 0, .int .i64 0, .int .i64 0, .int .i64 0, .int .i64 0] 23)
  generalize h2.push (.cells #[.int .i64 0, .int .i64 0, .int .i64 0, .int .i64 0, .int .i64 0, .int .i64 0, .int .i64 0] 23) = h3 at *
  generalize h2.size = Nc at *
  refine st7 (stN_full (vs := cfc p.c) H3.at rfl (by simp [cfc, oneC]) fun h5 w => ?_)
  have H5 := H3.wr w.new w.old
  clear H3 w
  refine rd15 H5.at2 ?_
  refine callV_fn (plSent_call fun h6 o6 => ?_)
  have H6 := H5.old o6
  try simp only [nilC, bsx, Nat.reduceAdd, Int.reduceLE, Int.reduceLT, Int.reduceToNat]
  rw [show s64 (p.sent + 1) = p.sent + 1 from by unfold s64; omega]
  refine callV_fn (link_call H6 (by omega) fun h7 H7 => ?_)
  try simp only [nilC, bsx, Nat.reduceAdd, Int.reduceLE, Int.reduceLT, Int.reduceToNat]
  have H8 : Sat h7 (memS q m0 * (pt Nc (.cells (cfc p.c).toArray 23) * (pt Np (.cells (plc p).toArray 69) * R))) := Sat.ac H7 (by ac_rfl)
  refine callV_fn (mStore H8 (wpack_U0 (by omega)) (by omega) fun h9 e9 H9 => ?_)
  try simp only [nilC, bsx, Nat.reduceAdd, Int.reduceLE, Int.reduceLT, Int.reduceToNat]
  have s1 := store_st m0 0 (wpack (p.sent + 1) false 0)
  have hf := fold_st (fun j => p.link (p.sent + 1 + j)) (fun j => p.sent + 1 + j + 1) (m0.store 0 (wpack (p.sent + 1) false 0))
  refine ⟨fun vs h' => ∃ (j : Nat), vs = [.int .i64 (p.sent + 1 + j)] ∧ (j : Int) ≤ p.c.nodes - (p.sent + 1) ∧ Sat h' (memS q ((List.range j).foldl (fun (m : Mm) (i : Nat) => m.store (p.link (p.sent + 1 + i)) (p.sent + 1 + i + 1)) (m0.store 0 (wpack (p.sent + 1) false 0))) * (pt Nc (.cells (cfc p.c).toArray 23) * (pt Np (.cells (plc p).toArray 69) * R))), fun vs _ => match vs with | [.int _ i] => (p.c.nodes - i).toNat | _ => 0, ⟨0, by simp, by omega, by simpa using H9⟩, ?_⟩
  rintro v58 g59 h60 ⟨j, e, hj, HJ⟩
  cases e
  have C := HJ.at2
  have PP := HJ.at3
  try simp only [nilC, bsx, Nat.reduceAdd, Int.reduceLE, Int.reduceLT, Int.reduceToNat]
  refine ldR C rfl ?_
  try simp only [nilC, bsx, Nat.reduceAdd, Int.reduceLE, Int.reduceLT, Int.reduceToNat]
  refine ifB_dec (fun c => ?_) (fun c => ?_)
  · refine rd15 PP ?_
    try simp only [nilC, bsx, Nat.reduceAdd, Int.reduceLE, Int.reduceLT, Int.reduceToNat]
    refine callV_fn (plLink_call P ⟨by omega, by omega⟩ fun h61 o61 => ?_)
    have HK := HJ.old o61
    try simp only [nilC, bsx, Nat.reduceAdd, Int.reduceLE, Int.reduceLT, Int.reduceToNat]
    rw [show s64 (p.sent + 1 + (j : Int) + 1) = p.sent + 1 + j + 1 from by unfold s64; omega, show Mod.u64 (p.sent + 1 + (j : Int) + 1) = p.sent + 1 + j + 1 from by unfold Mod.u64; omega]
    refine callV_fn (mStore HK ⟨by omega, by omega⟩ (by have := hf j; omega) fun h62 e62 HL => ?_)
    try simp only [nilC, bsx, Nat.reduceAdd, Int.reduceLE, Int.reduceLT, Int.reduceToNat]
    rw [fold_next (fun j => p.link (p.sent + 1 + j)) (fun j => p.sent + 1 + j + 1)] at HL
    refine ⟨⟨j + 1, ?_, by omega, HL⟩, ?_⟩
    · simp; omega
    · simp; omega
  have ej : (p.c.nodes - (p.sent + 1)).toNat = j := by omega
  have k : ∀ h', Sat h' (memS q (if p.c.algo = 0 then ((List.range j).foldl (fun (m : Mm) (i : Nat) => m.store (p.link (p.sent + 1 + i)) (p.sent + 1 + i + 1)) (m0.store 0 (wpack (p.sent + 1) false 0))).store 2 1 else
      (List.range p.c.level.toNat).foldl (fun (m : Mm) (i : Nat) => m.store (p.node 1 (5 + i)) (wpack 2 false 0)) (((((List.range j).foldl (fun (m : Mm) (i : Nat) => m.store (p.link (p.sent + 1 + i)) (p.sent + 1 + i + 1)) (m0.store 0 (wpack (p.sent + 1) false 0))).store 2 1).store (p.node 1 3) p.c.level).store (p.node 2 0) 18446744073709551615)) * R) → K (.tuple #[]) h' := by
    unfold layM at k
    rw [← ej]
    exact k
  have hfj := hf j
  generalize (List.range j).foldl (fun (m : Mm) (i : Nat) => m.store (p.link (p.sent + 1 + i)) (p.sent + 1 + i + 1)) (m0.store 0 (wpack (p.sent + 1) false 0)) = m2 at *
  refine callV_fn (mStore HJ (U.lit rfl) (by omega) fun h10 e10 H10 => ?_)
  have s3 := store_st m2 2 1
  try simp only [nilC, bsx, Nat.reduceAdd, Int.reduceLE, Int.reduceLT, Int.reduceToNat]
  refine ldR H10.at2 rfl ?_
  try simp only [nilC, bsx, Nat.reduceAdd, Int.reduceLE, Int.reduceLT, Int.reduceToNat]
  refine ifB_dec (fun c2 => ?_) (fun c2 => ?_)
  · rw [if_pos c2] at k
    exact k h10 H10.drop2.drop2
  rw [if_neg c2] at k
  refine rd15 H10.at3 ?_
  refine ldR H10.at2 rfl ?_
  try simp only [nilC, bsx, Nat.reduceAdd, Int.reduceLE, Int.reduceLT, Int.reduceToNat]
  refine callV_fn (plNode_call P (by decide) (by decide) fun h11 o11 => ?_)
  have H11 := H10.old o11
  try simp only [nilC, bsx, Nat.reduceAdd, Int.reduceLE, Int.reduceLT, Int.reduceToNat]
  refine ⟨cellR H11.at2 rfl, ?_⟩
  rw [show Mod.u64 p.c.level = p.c.level from by unfold Mod.u64; omega]
  refine callV_fn (mStore H11 ⟨by omega, by omega⟩ (by omega) fun h12 e12 H12 => ?_)
  have s4 := store_st (m2.store 2 1) (p.node 1 3) p.c.level
  try simp only [nilC, bsx, Nat.reduceAdd, Int.reduceLE, Int.reduceLT, Int.reduceToNat]
  refine rd15 H12.at3 ?_
  refine callV_fn (plNode_call P (by decide) (by decide) fun h13 o13 => ?_)
  have H13 := H12.old o13
  try simp only [nilC, bsx, Nat.reduceAdd, Int.reduceLE, Int.reduceLT, Int.reduceToNat]
  refine callV_fn (mStore H13 (U.lit rfl) (by omega) fun h14 e14 H14 => ?_)
  have s5 := store_st ((m2.store 2 1).store (p.node 1 3) p.c.level) (p.node 2 0) 18446744073709551615
  try simp only [nilC, bsx, Nat.reduceAdd, Int.reduceLE, Int.reduceLT, Int.reduceToNat]
  refine ldR H14.at2 rfl ?_
  try simp only [nilC, bsx, Nat.reduceAdd, Int.reduceLE, Int.reduceLT, Int.reduceToNat]
  generalize ((m2.store 2 1).store (p.node 1 3) p.c.level).store (p.node 2 0) 18446744073709551615 = m5 at *
  have hm5 : m5.st ≤ 2000 := by omega
  clear s1 s3 s4 s5 hfj H9 H10 H11 H12 H13
  clear hf
  have hf := fold_st (fun j => p.node 1 (5 + j)) (fun j => wpack 2 false 0) m5
  refine ⟨fun vs h' => ∃ (w : Value) (j : Nat), vs = [w, .int .i64 j] ∧ (j : Int) ≤ p.c.level ∧ Sat h' (memS q ((List.range j).foldl (fun (m : Mm) (i : Nat) => m.store (p.node 1 (5 + i)) (wpack 2 false 0)) m5) * (pt Nc (.cells (cfc p.c).toArray 23) * (pt Np (.cells (plc p).toArray 69) * R))), fun vs _ => match vs with | [_, .int _ i] => (p.c.level - i).toNat | _ => 0, ⟨_, 0, rfl, by omega, H14⟩, ?_⟩
  rintro v141 v142 g143 h144 ⟨w, j2, e, hj2, HJ⟩
  cases e
  try simp only [nilC, bsx, Nat.reduceAdd, Int.reduceLE, Int.reduceLT, Int.reduceToNat]
  refine ifB_dec (fun c3 => ?_) (fun c3 => ?_)
  · refine rd15 HJ.at3 ?_
    rw [show s64 (5 + (j2 : Int)) = 5 + j2 from by unfold s64; omega]
    refine callV_fn (plNode_call P (by decide) ⟨by omega, by omega⟩ fun h61 o61 => ?_)
    have HK := HJ.old o61
    try simp only [nilC, bsx, Nat.reduceAdd, Int.reduceLE, Int.reduceLT, Int.reduceToNat]
    refine callV_fn (link_call HK (by omega) fun h62 HL => ?_)
    try simp only [nilC, bsx, Nat.reduceAdd, Int.reduceLE, Int.reduceLT, Int.reduceToNat]
    refine callV_fn (mStore HL (wpack_U0 (by omega)) (by have := hf j2; omega) fun h63 e63 HM => ?_)
    try simp only [nilC, bsx, Nat.reduceAdd, Int.reduceLE, Int.reduceLT, Int.reduceToNat]
    rw [fold_next (fun j => p.node 1 (5 + j)) (fun j => wpack 2 false 0)] at HM
    rw [show s64 ((j2 : Int) + 1) = ((j2 + 1 : Nat) : Int) from by unfold s64; omega]
    refine ⟨⟨_, j2 + 1, rfl, by omega, HM⟩, ?_⟩
    omega
  · have ej2 : p.c.level.toNat = j2 := by omega
    rw [ej2] at k
    exact k h144 HJ.drop2.drop2
end
section
open Mod
theorem thrs_snoc (Ts : List Nat) (ts : List Thr) (T : Nat) (t : Thr) : ∀ (i : Int), Ts.length = ts.length → thrs i (Ts ++ [T]) (ts ++ [t]) = thrs i Ts ts * thrS T none t (i + ts.length) := by
  induction Ts generalizing ts with
  | nil =>
    intro i e
    cases ts with
    | nil =>
      show thrS T none t i * emp = emp * thrS T none t (i + 0)
      rw [star_comm, Int.add_zero]
    | cons _ _ => simp at e
  | cons T0 Ts ih =>
    intro i e
    cases ts with
    | nil => simp at e
    | cons t0 ts =>
      have e' : Ts.length = ts.length := by simpa using e
      show thrS T0 none t0 i * thrs (i + 1) (Ts ++ [T]) (ts ++ [t]) = (thrS T0 none t0 i * thrs (i + 1) Ts ts) * thrS T none t (i + ((t0 :: ts).length : Nat))
      rw [ih ts (i + 1) e', star_assoc]
      congr 3
      simp only [List.length_cons]
      omega
theorem und_thr : und Tryz.prog 78 = .slice 82 := by kernel_rfl
theorem there_thr : there Tryz.prog 82 = true := by kernel_rfl
theorem zer_thr : zer Tryz.prog 82 = some (.pointer none) := by kernel_rfl
theorem siz_thr : siz Tryz.prog 82 = 1 := by kernel_rfl
theorem byt_thr : byt Tryz.prog 82 = 8 := by kernel_rfl
theorem thr_new {h : Heap} {R : Hp} {A B C : Nat} {c : Mod.Cf} (id : Int) (H : Sat h (pt A (.cells (uvs (List.replicate c.level.toNat 0)).toArray 65) * (pt B (.cells (uvs (List.replicate c.level.toNat 0)).toArray 65) * (pt C (.cells (uvs (List.replicate c.level.toNat 0)).toArray 65) * R)))) :
    Sat (h.push (.cells #[.int .i64 id, .slice none 0 0, .int .u64 0, .int .u64 0, .int .u64 0, .slice (some ⟨A, 0, none⟩) c.level.toNat c.level.toNat, .slice (some ⟨B, 0, none⟩) c.level.toNat c.level.toNat, .slice (some ⟨C, 0, none⟩) c.level.toNat c.level.toNat, .slice none 0 0, .slice none 0 0] 88)) (thrS h.size none (thr0 c) id * R) := by
  have H1 := H.push (.cells #[.int .i64 id, .slice none 0 0, .int .u64 0, .int .u64 0, .int .u64 0, .slice (some ⟨A, 0, none⟩) c.level.toNat c.level.toNat, .slice (some ⟨B, 0, none⟩) c.level.toNat c.level.toNat, .slice (some ⟨C, 0, none⟩) c.level.toNat c.level.toNat, .slice none 0 0, .slice none 0 0] 88)
  have H2 := ((H1.own_new 99 12).own_new 3 1).own_new 3 1
  have z : ∀ v ∈ List.replicate c.level.toNat (0 : Int), U v := fun v hv => by rw [List.eq_of_mem_replicate hv]; exact U0
  have hn : ∀ v ∈ ([] : List Int), iN v := fun v hv => by cases hv
  refine thrS_iff.2 ⟨⟨none, 0, A, B, C, none, 0, none, 0⟩, ⟨⟨fun f hf => (by cases hf), ⟨rfl, fun v hv => ?_⟩, z, z, z, hn, hn, by simp [thr0]⟩, TopAt.none _ _⟩, ?_⟩
  · simp only [thr0, List.mem_cons, List.not_mem_nil, or_false] at hv
    rcases hv with rfl | rfl | rfl <;> exact U0
  have e : (thrC ⟨none, 0, A, B, C, none, 0, none, 0⟩ (thr0 c) id).toArray = #[.int .i64 id, .slice none 0 0, .int .u64 0, .int .u64 0, .int .u64 0, .slice (some ⟨A, 0, none⟩) c.level.toNat c.level.toNat, .slice (some ⟨B, 0, none⟩) c.level.toNat c.level.toNat, .slice (some ⟨C, 0, none⟩) c.level.toNat c.level.toNat, .slice none 0 0, .slice none 0 0] := by
    simp [thrC, thr0]
  rw [e]
  have H3 : Sat _ (ownF none 0 0 [] * _) := H2.toF (xs := [])
  refine Sat.ac H3 ?_
  show _ = _ * (ownS 99 12 none 0 0 [] * (_ * (_ * (_ * (ownS 3 1 none 0 0 [] * (ownF none 0 0 [] * _))))))
  ac_rfl
theorem elem20' {v0 v1 : Value} {F : Value → Prop} (k : F v0) : elemH #[v0, v1] 0 F := k
theorem elem21' {v0 v1 : Value} {F : Value → Prop} (k : F v1) : elemH #[v0, v1] 1 F := k
def macI (c : Mod.Cf) (bs : List Int) (gh : Bool) (i : Nat) : Mac := (macNew c bs gh).setTh (List.replicate i (thr0 c))
theorem ld_of' {h : Heap} {a : Addr} {v : Value} (e : cellAt h a = some v) (F : Value → Prop) : ldH h a F = F v := by unfold ldH; rw [e]
theorem z15 {F : Value → Value → Value → Value → Value → Value → Value → Value → Value → Value → Value → Value → Value → Value → Value → Prop} (k : F (.int .i64 0) (.int .i64 0) (.int .i64 0) (.int .i64 0) (.int .i64 0) (.int .i64 0) (.int .i64 0) (.int .i64 0) (.int .i64 0) (.int .i64 0) (.int .i64 0) (.int .i64 0) (.int .i64 0) (.int .i64 0) (.int .i64 0)) :
    asAgg (.agg zeros15) fun vs => sizeH vs 15 (elemH vs 0 fun v0 => elemH vs 1 fun v1 => elemH vs 2 fun v2 => elemH vs 3 fun v3 => elemH vs 4 fun v4 => elemH vs 5 fun v5 => elemH vs 6 fun v6 => elemH vs 7 fun v7 => elemH vs 8 fun v8 => elemH vs 9 fun v9 => elemH vs 10 fun v10 => elemH vs 11 fun v11 => elemH vs 12 fun v12 => elemH vs 13 fun v13 => elemH vs 14 fun v14 => F v0 v1 v2 v3 v4 v5 v6 v7 v8 v9 v10 v11 v12 v13 v14) := k
theorem mac_none {h : Heap} {X : Hp} {M q gq fq : Nat} {m : Mac} (P : PlB m.p) (e : m.th = []) (H : Sat h (pt M (.cells (macC (.slice none 0 0) q gq fq m).toArray 80) * (ghS m.g gq * (fdS fq m.b m.used * (memS q m.mm * X))))) : Sat h (machS M [] m * X) := by
  have H1 := H.own_new 82 1
  have H2 : Sat h (macS M (.slice none 0 0) m * (ownS 82 1 none 0 0 [] * X)) := macS_iff.2 ⟨q, gq, fq, P, Sat.ac H1 (by ac_rfl)⟩
  refine machS_iff.2 ⟨none, 0, ⟨by rw [e]; rfl, by rw [e]; simp⟩, ?_⟩
  rw [e]
  show Sat h (macS M (.slice none 0 0) m * (ownS 82 1 none 0 0 [] * (emp * X)))
  rw [emp_star]
  exact H2
theorem newThr_end {h : Heap} {X : Hp} {M A B C : Nat} {Ts : List Nat} {c : Mod.Cf} {bs : List Int} {gh : Bool} {i : Nat} {a : Option Addr} {cc : Nat} {K : Heap → Prop} (hi : i < 6) (hT : Ts.length = i)
    (H : Sat h (pt A (.cells (uvs (List.replicate c.level.toNat 0)).toArray 65) * (pt B (.cells (uvs (List.replicate c.level.toNat 0)).toArray 65) * (pt C (.cells (uvs (List.replicate c.level.toNat 0)).toArray 65) * (macS M (.slice a i cc) (macI c bs gh i) * (ownS 82 1 a i cc (Ts.map mP) * (thrs 0 Ts (List.replicate i (thr0 c)) * X)))))))
    (k : ∀ h' T, Sat h' (machS M (Ts ++ [T]) (macI c bs gh (i + 1)) * X) → K h') :
    appH Tryz.prog #[78, 78] 78 #[.slice a i cc, .slice (some ⟨(h.push (.cells #[.int .i64 i, .slice none 0 0, .int .u64 0, .int .u64 0, .int .u64 0, .slice (some ⟨A, 0, none⟩) c.level.toNat c.level.toNat, .slice (some ⟨B, 0, none⟩) c.level.toNat c.level.toNat, .slice (some ⟨C, 0, none⟩) c.level.toNat c.level.toNat, .slice none 0 0, .slice none 0 0] 88)).size, 0, none⟩) 1 1]
      ((h.push (.cells #[.int .i64 i, .slice none 0 0, .int .u64 0, .int .u64 0, .int .u64 0, .slice (some ⟨A, 0, none⟩) c.level.toNat c.level.toNat, .slice (some ⟨B, 0, none⟩) c.level.toNat c.level.toNat, .slice (some ⟨C, 0, none⟩) c.level.toNat c.level.toNat, .slice none 0 0, .slice none 0 0] 88)).push (.cells #[.pointer (some ⟨h.size, 0, none⟩)] 82))
      fun v h' => asSlice v fun o k1 k2 => stH h' ⟨M, 18, none⟩ (.slice o k1 k2) K := by
  have H1 := thr_new (i : Int) H
  generalize h.push _ = h1 at *
  generalize h.size = T at *
  have H2 := H1.push (.cells #[.pointer (some ⟨T, 0, none⟩)] 82)
  have hs : Sees (h1.push (.cells #[.pointer (some ⟨T, 0, none⟩)] 82)) (some ⟨h1.size, 0, none⟩) [mP T] := fun j v hj => ⟨_, rfl, by rw [add_lit, Nat.zero_add, cellAt_of H2.at]; simpa using hj⟩
  generalize h1.push (.cells #[.pointer (some ⟨T, 0, none⟩)] 82) = h2 at *
  have H3 : Sat h2 (ownS 82 (siz Tryz.prog 82) a i cc (Ts.map mP) * (macS M (.slice a i cc) (macI c bs gh i) * (thrs 0 Ts (List.replicate i (thr0 c)) * (thrS T none (thr0 c) i * X)))) := by
    rw [siz_thr]
    exact Sat.ac H2.drop (by ac_rfl)
  refine H3.app und_thr there_thr zer_thr (by rw [siz_thr]; rfl) hs (n := 1) (by rw [siz_thr]; rfl) (by simp [oneC]) (by rw [byt_thr]; omega) (by rw [byt_thr]; omega) fun a' c' h3 H4 => ?_
  rw [siz_thr, star_left] at H4
  obtain ⟨q, gq, fq, P, H5⟩ := macS_iff.1 H4
  try simp only [nilC, bsx, Nat.reduceAdd, Int.reduceLE, Int.reduceLT, Int.reduceToNat]
  refine H5.st (i := 18) rfl trivial fun h4 H6 => k h4 T ?_
  have H7 : Sat h4 (macS M (.slice a' (i + 1) c') (macI c bs gh (i + 1)) * (ownS 82 1 a' (i + 1) c' (Ts.map mP ++ [mP T]) * (thrs 0 Ts (List.replicate i (thr0 c)) * (thrS T none (thr0 c) i * X)))) := macS_iff.2 ⟨q, gq, fq, P, H6⟩
  refine machS_iff.2 ⟨a', c', ⟨by simp [macI, Mod.Mac.setTh, hT], by simp [macI, Mod.Mac.setTh]; omega⟩, ?_⟩
  have e1 : (macI c bs gh (i + 1)).th = List.replicate i (thr0 c) ++ [thr0 c] := List.replicate_succ'
  have e2 : (macI c bs gh (i + 1)).th.length = i + 1 := by rw [e1]; simp
  rw [e2, e1, thrs_snoc _ _ _ _ _ (by simp [hT]), List.map_append]
  have e3 : (0 : Int) + ((List.replicate i (thr0 c)).length : Nat) = i := by simp
  rw [e3]
  exact Sat.ac H7 (by show _ = _ * (ownS 82 1 a' (i + 1) c' (Ts.map mP ++ [mP T]) * _); ac_rfl)
theorem coreNew_call {K : Value → Heap → Prop} {h : Heap} {R : Hp} {c : Mod.Cf} {a : Option Addr} {cc : Nat} {bs : List Int} {gh : Bool} (H : Sat h R) (hs : ∀ h' P, Sat h' (P * R) → Sees h' a (bs.map fun n => .int .u8 n)) (hl : bs.length ≤ 65536) (hr : ∀ n ∈ bs, 0 ≤ n ∧ n < 256)
    (k0 : okC c = false → ∀ h', Sat h' R → K (.tuple #[.pointer none, .int .i64 6]) h') (k1 : okC c = true → ∀ h' M Ts, Sat h' (machS M Ts (macNew c bs gh) * R) → K (.tuple #[mP M, .int .i64 0]) h') :
    CallH Tryz.prog 20 #[cfV c, .slice a bs.length cc, .bool gh] h K := by
  refine call20 ?_
  unfold F20 g20 q20_7 q20_6 q20_5 q20_4 q20_3 q20_2 q20_1 cf ce lI
  have H1 := H.push (.cells #[.int .i64 c.algo, .int .i64 c.threads, .int .i64 c.nodes, .int .i64 c.level, .int .i64 c.batch, .int .i64 c.probes, .int .i64 c.scan] 23)
  generalize h.push (.cells #[.int .i64 c.algo, .int .i64 c.threads, .int .i64 c.nodes, .int .i64 c.level, .int .i64 c.batch, .int .i64 c.probes, .int .i64 c.scan] 23) = h1 at *
  generalize h.size = Nc at *
  have C1 := H1.at
  iterate 7 (refine ldR C1 rfl ?_)
  refine callV_fn (planNew_call c (fun hok h2 o2 => ?_) fun hok h2 o2 => ?_)
  · have P := planOf_B hok
    have hp : (planOf c).c = c := rfl
    have H2 := H1.old o2
    try simp only [nilC, bsx, Nat.reduceAdd, Int.reduceLE, Int.reduceLT, Int.reduceToNat]
    refine elem20' ?_
    refine pl15 ?_
    try simp only [nilC, bsx, Nat.reduceAdd, Int.reduceLE, Int.reduceLT, Int.reduceToNat]
    refine elem21' ?_
    try simp only [nilC, bsx, Nat.reduceAdd, Int.reduceLE, Int.reduceLT, Int.reduceToNat]
    have H3 := H2.push (.cells #[.int .i64 0, .int .i64 0, .int .i64 0, .int .i64 0, .int .i64 0, .int .i64 0, .int .i64 0, .int .i64 0, .int .i64 0, .int .i64 0, .int .i64 0, .int .i64 0, .int .i64 0, .int .i64 0, .int .i64 0] 69)
    generalize h2.push (.cells #[.int .i64 0, .int .i64 0, .int .i64 0, .int .i64 0, .int .i64 0, .int .i64 0, .int .i64 0, .int .i64 0, .int .i64 0, .int .i64 0, .int .i64 0, .int .i64 0, .int .i64 0, .int .i64 0, .int .i64 0] 69) = h3 at *
    generalize h2.size = Np at *
    refine st15 (stN_full (vs := plc (planOf c)) H3.at rfl (by simp [oneC]) fun h4 w => ?_)
    have H4 := H3.wr w.new w.old
    clear H3 w
    refine ifB_mk (fun c0 => by simp at c0) (fun _ => ?_)
    refine rd15 H4.at ?_
    refine callV_fn (plSize_call fun h5 o5 => ?_)
    have H5 := H4.old o5
    try simp only [nilC, bsx, Nat.reduceAdd, Int.reduceLE, Int.reduceLT, Int.reduceToNat]
    have hsz : 1 ≤ (planOf c).size ∧ (planOf c).size ≤ 4096 := by
      have := P.si; have := P.tr; have := P.nd; have := P.li
      omega
    refine callV_fn (memNew_call H5 hsz fun h6 q H6 => ?_)
    try simp only [nilC, bsx, Nat.reduceAdd, Int.reduceLE, Int.reduceLT, Int.reduceToNat]
    refine elem20' ?_
    try simp only [nilC, bsx, Nat.reduceAdd, Int.reduceLE, Int.reduceLT, Int.reduceToNat]
    refine elem21' ?_
    try simp only [nilC, bsx, Nat.reduceAdd, Int.reduceLE, Int.reduceLT, Int.reduceToNat]
    refine ifB_mk (fun c0 => by simp at c0) (fun _ => ?_)
    refine rd15 H6.at2 ?_
    have hsn : (planOf c).sent < (planOf c).c.nodes := by
      have := hok
      unfold okC at this
      rw [decide_eq_true_iff] at this
      have h15 := this.2.2.2.2.2.2.2.2.2.2.2.2.2.2
      show (if (c.algo == 0) = true then (0 : Int) else 2) < c.nodes
      simpa using h15
    refine callV_fn (lay_call H6 P rfl hsn fun h7 H7 => ?_)
    refine rd15 H7.at2 ?_
    refine callV_fn (feedNew_call H7 ?_ hl hr fun h8 fq H8 => ?_)
    · refine hs h7 (memS q (layM (planOf c) ⟨List.replicate (planOf c).size.toNat 0, 0, false, []⟩) * (pt Np (.cells (plc (planOf c)).toArray 69) * pt Nc (.cells #[.int .i64 c.algo, .int .i64 c.threads, .int .i64 c.nodes, .int .i64 c.level, .int .i64 c.batch, .int .i64 c.probes, .int .i64 c.scan] 23))) (Sat.ac H7 (by ac_rfl))
    try simp only [nilC, bsx, Nat.reduceAdd, Int.reduceLE, Int.reduceLT, Int.reduceToNat]
    refine held15 H8.at3 ?_
    have H9 := H8.push (.cells (macC (.slice none 0 0) q 0 fq (macI c bs false 0)).toArray 80)
    have em : (.cells #[.int .i64 (planOf c).c.algo, .int .i64 (planOf c).c.threads, .int .i64 (planOf c).c.nodes, .int .i64 (planOf c).c.level, .int .i64 (planOf c).c.batch, .int .i64 (planOf c).c.probes, .int .i64 (planOf c).c.scan, .int .i64 (planOf c).slots, .int .i64 (planOf c).width, .int .i64 (planOf c).sent, .int .i64 (planOf c).hazards, .int .i64 (planOf c).links, .int .i64 (planOf c).nodes, .int .i64 (planOf c).tree, .int .i64 (planOf c).size, .pointer (some ⟨q, 0, none⟩), .pointer none, .pointer (some ⟨fq, 0, none⟩), .slice none 0 0, .bool false, .bool false] 80 : Obj) = .cells (macC (.slice none 0 0) q 0 fq (macI c bs false 0)).toArray 80 := rfl
    rw [em]
    generalize h8.push (.cells (macC (.slice none 0 0) q 0 fq (macI c bs false 0)).toArray 80) = h9 at *
    generalize h8.size = M at *
    have e0 : macI c bs false 0 = ⟨planOf c, lay (planOf c), none, bs, 0, [], false, false⟩ := rfl
    refine ⟨fun _ h' => Sat h' (machS M [] (macI c bs gh 0) * (pt Nc (.cells #[.int .i64 c.algo, .int .i64 c.threads, .int .i64 c.nodes, .int .i64 c.level, .int .i64 c.batch, .int .i64 c.probes, .int .i64 c.scan] 23) * (pt Np (.cells (plc (planOf c)).toArray 69) * R))), ?_, ?_⟩
    · cases gh with
      | false =>
        simp only [ifB_false]
        refine mac_none (q := q) (gq := 0) (fq := fq) P rfl ?_
        show Sat h9 (_ * (emp * (fdS fq bs 0 * (memS q (lay (planOf c)) * _))))
        rw [emp_star, lay_layM]
        exact Sat.ac H9 (by ac_rfl)
      | true =>
        simp only [ifB_true]
        have HC : Sat h9 (pt Nc (.cells #[.int .i64 c.algo, .int .i64 c.threads, .int .i64 c.nodes, .int .i64 c.level, .int .i64 c.batch, .int .i64 c.probes, .int .i64 c.scan] 23) * (pt Np (.cells (plc (planOf c)).toArray 69) * (pt M (.cells (macC (.slice none 0 0) q 0 fq (macI c bs false 0)).toArray 80) * (fdS fq bs 0 * (memS q (layM (planOf c) ⟨List.replicate (planOf c).size.toNat 0, 0, false, []⟩) * R))))) := Sat.ac H9 (by ac_rfl)
        refine ldR HC.at rfl ?_
        try simp only [nilC, bsx, Nat.reduceAdd, Int.reduceLE, Int.reduceLT, Int.reduceToNat]
        refine rd15 HC.at2 ?_
        refine callV_fn (plSent_call fun h10 o10 => ?_)
        have HD := HC.old o10
        try simp only [nilC, bsx, Nat.reduceAdd, Int.reduceLE, Int.reduceLT, Int.reduceToNat]
        refine ⟨cellR HD.at rfl, ?_⟩
        have hbd := hok
        unfold okC at hbd
        rw [decide_eq_true_iff] at hbd
        refine callV_fn (ghostNew_call HD ⟨hbd.2.2.2.2.1, hbd.2.2.2.2.2.1⟩ ⟨P.se.1, by have : (planOf c).sent < c.nodes := hsn; omega⟩ fun h11 gq HE => ?_)
        try simp only [nilC, bsx, Nat.reduceAdd, Int.reduceLE, Int.reduceLT, Int.reduceToNat]
        have HF : Sat h11 (pt M (.cells (macC (.slice none 0 0) q 0 fq (macI c bs false 0)).toArray 80) * (ghS (some (ghNew c.nodes (planOf c).sent)) gq * (fdS fq bs 0 * (memS q (layM (planOf c) ⟨List.replicate (planOf c).size.toNat 0, 0, false, []⟩) * (pt Nc (.cells #[.int .i64 c.algo, .int .i64 c.threads, .int .i64 c.nodes, .int .i64 c.level, .int .i64 c.batch, .int .i64 c.probes, .int .i64 c.scan] 23) * (pt Np (.cells (plc (planOf c)).toArray 69) * R)))))) := Sat.ac HE (by ac_rfl)
        refine HF.st (i := 16) rfl trivial fun h12 HG => ?_
        exact mac_none (q := q) (gq := gq) (fq := fq) (m := macI c bs true 0) P rfl HG
    intro g131 h132 H10
    refine ldR H10.at2 rfl ?_
    try simp only [nilC, bsx, Nat.reduceAdd, Int.reduceLE, Int.reduceLT, Int.reduceToNat]
    refine ⟨fun vs h' => ∃ (w : Value) (i : Nat) (Ts : List Nat), vs = [w, .int .i64 i] ∧ (i : Int) ≤ c.threads ∧ Ts.length = i ∧ Sat h' (machS M Ts (macI c bs gh i) * (pt Nc (.cells #[.int .i64 c.algo, .int .i64 c.threads, .int .i64 c.nodes, .int .i64 c.level, .int .i64 c.batch, .int .i64 c.probes, .int .i64 c.scan] 23) * (pt Np (.cells (plc (planOf c)).toArray 69) * R))), fun vs _ => match vs with | [_, .int _ i] => (c.threads - i).toNat | _ => 0, ⟨_, 0, [], rfl, by have := P.th; rw [hp] at this; omega, rfl, H10⟩, ?_⟩
    rintro v137 v138 g139 h140 ⟨w, i, Ts, e, hi, hT, H11⟩
    cases e
    have hth := P.th
    rw [hp] at hth
    have hlv := P.lv
    rw [hp] at hlv
    try simp only [nilC, bsx, Nat.reduceAdd, Int.reduceLE, Int.reduceLT, Int.reduceToNat]
    refine ifB_dec (fun c1 => ?_) (fun c1 => ?_)
    · obtain ⟨a', cc', ⟨hl1, hl2⟩, H12⟩ := machS_iff.1 H11
      have eth : (macI c bs gh i).th = List.replicate i (thr0 c) := rfl
      have ethl : (macI c bs gh i).th.length = i := by rw [eth]; simp
      rw [ethl, eth] at H12
      obtain ⟨q2, gq2, fq2, P2, H13⟩ := macS_iff.1 H12
      have cM : cellAt h140 ⟨M, 18, none⟩ = some (.slice a' i cc') := cellAt_of H13.at 18
      have HN : Sat h140 (pt Nc (.cells #[.int .i64 c.algo, .int .i64 c.threads, .int .i64 c.nodes, .int .i64 c.level, .int .i64 c.batch, .int .i64 c.probes, .int .i64 c.scan] 23) * _) := H11.drop
      have cN : cellAt h140 ⟨Nc, 3, none⟩ = some (.int .i64 c.level) := cellAt_of HN.at 3
      have lM : ∀ F : Value → Prop, ldH h140 ⟨M, 18, none⟩ F = F (.slice a' i cc') := ld_of' cM
      have lN : ∀ F : Value → Prop, ldH h140 ⟨Nc, 3, none⟩ F = F (.int .i64 c.level) := ld_of' cN
      have m1 := fun o => cell_push (o := o) cM
      have m2 := fun o o2 => cell_push (o := o2) (m1 o)
      have m3 := fun o o2 o3 => cell_push (o := o3) (m2 o o2)
      have m4 := fun o o2 o3 o4 => cell_push (o := o4) (m3 o o2 o3)
      have m5 := fun o o2 o3 o4 o5 => cell_push (o := o5) (m4 o o2 o3 o4)
      have n1 := fun o => cell_push (o := o) cN
      have n2 := fun o o2 => cell_push (o := o2) (n1 o)
      have n3 := fun o o2 o3 => cell_push (o := o3) (n2 o o2)
      have n4 := fun o o2 o3 o4 => cell_push (o := o4) (n3 o o2 o3)
      have n5 := fun o o2 o3 o4 o5 => cell_push (o := o5) (n4 o o2 o3 o4)
      try simp only [nilC, bsx, Nat.reduceAdd, Int.reduceLE, Int.reduceLT, Int.reduceToNat, lM, lN]
      have hlv4 : 0 ≤ c.level ∧ c.level ≤ 4096 := by omega
      have H14 := ((H12.push (.cells (uvs (List.replicate c.level.toNat 0)).toArray 65)).push (.cells (uvs (List.replicate c.level.toNat 0)).toArray 65)).push (.cells (uvs (List.replicate c.level.toNat 0)).toArray 65)
      refine ⟨make_u64 hlv4 ?_, make_u64 hlv4 ?_, make_u64 hlv4 ?_⟩
      all_goals
        try simp only [nilC, bsx, Nat.reduceAdd, Int.reduceLE, Int.reduceLT, Int.reduceToNat, m1, n1]
        refine ⟨make_u64 hlv4 ?_, make_u64 hlv4 ?_⟩
      all_goals
        try simp only [nilC, bsx, Nat.reduceAdd, Int.reduceLE, Int.reduceLT, Int.reduceToNat, m2, n2]
        refine make_u64 hlv4 ?_
        try simp only [nilC, bsx, Nat.reduceAdd, Int.reduceLE, Int.reduceLT, Int.reduceToNat, m3, n3, m4, n4, m5, n5]
      all_goals
        refine newThr_end (i := i) (X := pt Nc (.cells #[.int .i64 c.algo, .int .i64 c.threads, .int .i64 c.nodes, .int .i64 c.level, .int .i64 c.batch, .int .i64 c.probes, .int .i64 c.scan] 23) * (pt Np (.cells (plc (planOf c)).toArray 69) * R)) (by omega) hT (Sat.ac H14 (by ac_rfl)) fun h' T H' => ?_
      all_goals
        try simp only [nilC, bsx, Nat.reduceAdd, Int.reduceLE, Int.reduceLT, Int.reduceToNat]
        refine ⟨⟨.int .i64 i, i + 1, Ts ++ [T], ?_, by omega, by simp [hT], H'⟩, ?_⟩
      all_goals
        rw [show s64 ((i : Int) + 1) = ((i + 1 : Nat) : Int) from by unfold s64; omega]
      all_goals
        first
          | rfl
          | omega
    · have ei : c.threads.toNat = i := by omega
      have em : macI c bs gh i = macNew c bs gh := by
        rw [← ei]; rfl
      rw [em] at H11
      exact k1 hok h140 M Ts H11.drop2.drop2
  · have H2 := H1.old o2
    try simp only [nilC, bsx, Nat.reduceAdd, Int.reduceLE, Int.reduceLT, Int.reduceToNat]
    refine elem20' ?_
    refine z15 ?_
    try simp only [nilC, bsx, Nat.reduceAdd, Int.reduceLE, Int.reduceLT, Int.reduceToNat]
    refine elem21' ?_
    try simp only [nilC, bsx, Nat.reduceAdd, Int.reduceLE, Int.reduceLT, Int.reduceToNat]
    have H3 := H2.push (.cells #[.int .i64 0, .int .i64 0, .int .i64 0, .int .i64 0, .int .i64 0, .int .i64 0, .int .i64 0, .int .i64 0, .int .i64 0, .int .i64 0, .int .i64 0, .int .i64 0, .int .i64 0, .int .i64 0, .int .i64 0] 69)
    generalize h2.push (.cells #[.int .i64 0, .int .i64 0, .int .i64 0, .int .i64 0, .int .i64 0, .int .i64 0, .int .i64 0, .int .i64 0, .int .i64 0, .int .i64 0, .int .i64 0, .int .i64 0, .int .i64 0, .int .i64 0, .int .i64 0] 69) = h3 at *
    generalize h2.size = Np at *
    refine st15 (stN_full (vs := [.int .i64 0, .int .i64 0, .int .i64 0, .int .i64 0, .int .i64 0, .int .i64 0, .int .i64 0, .int .i64 0, .int .i64 0, .int .i64 0, .int .i64 0, .int .i64 0, .int .i64 0, .int .i64 0, .int .i64 0]) H3.at rfl (by simp [oneC]) fun h4 w => ?_)
    have H4 := H3.wr w.new w.old
    refine ifB_mk (fun _ => ?_) (fun c0 => by simp at c0)
    exact k0 hok h4 H4.drop.drop
end
section
set_option maxRecDepth 100000
abbrev g5 (K : Value → Heap → Prop) (h H1 H2 : Heap) : Prop :=
  (ldH H2 ⟨H1.size, 0, none⟩ fun v0 => ldH H2 ⟨H1.size, 1, none⟩ fun v1 => ldH H2 ⟨H1.size, 2, none⟩ fun v2 => ldH H2 ⟨H1.size, 3, none⟩ fun v3 => ldH H2 ⟨H1.size, 4, none⟩ fun v4 => ldH H2 ⟨H1.size, 5, none⟩ fun v5 => ldH H2 ⟨H1.size, 6, none⟩ fun v6 => cf 15 #[.agg #[v0, v1, v2, v3, v4, v5, v6]] H2 fun v7 h8 => asBool v7 fun b9 => ifB (!b9) (cf 16 #[] h8 fun v10 h11 => asBool v10 fun b12 => K (.bool b12) h11) (ldH h8 ⟨h.size, 0, none⟩ fun v13 => ldH h8 ⟨h.size, 1, none⟩ fun v14 => ldH h8 ⟨h.size, 2, none⟩ fun v15 => ldH h8 ⟨h.size, 3, none⟩ fun v16 => ldH h8 ⟨h.size, 4, none⟩ fun v17 => ldH h8 ⟨h.size, 5, none⟩ fun v18 => ldH h8 ⟨h.size, 6, none⟩ fun v19 => ldH h8 ⟨h.size, 7, none⟩ fun v20 => ldH h8 ⟨h.size, 8, none⟩ fun v21 => ldH h8 ⟨h.size, 9, none⟩ fun v22 => ldH h8 ⟨H1.size, 0, none⟩ fun v23 => ldH h8 ⟨H1.size, 1, none⟩ fun v24 => ldH h8 ⟨H1.size, 2, none⟩ fun v25 => ldH h8 ⟨H1.size, 3, none⟩ fun v26 => ldH h8 ⟨H1.size, 4, none⟩ fun v27 => ldH h8 ⟨H1.size, 5, none⟩ fun v28 => ldH h8 ⟨H1.size, 6, none⟩ fun v29 => cf 17 #[.agg #[v13, v14, v15, v16, v17, v18, v19, v20, v21, v22], .agg #[v23, v24, v25, v26, v27, v28, v29], .int .i64 4, .int .i64 2000] h8 fun v30 h31 => asTup v30 fun vs32 => elemH vs32 0 fun v33 => asPtrO v33 fun o34 => asTup v30 fun vs35 => elemH vs35 1 fun v36 => asAgg v36 fun vs37 => sizeH vs37 10 (elemH vs37 0 fun v38 => elemH vs37 1 fun v39 => elemH vs37 2 fun v40 => elemH vs37 3 fun v41 => elemH vs37 4 fun v42 => elemH vs37 5 fun v43 => elemH vs37 6 fun v44 => elemH vs37 7 fun v45 => elemH vs37 8 fun v46 => elemH vs37 9 fun v47 => stH (Array.push h31 (.cells #[.int .i64 0, .int .i64 0, .int .i64 0, .int .i64 0, .int .i64 0, .int .i64 0, .int .i64 0, .slice none 0 0, .slice none 0 0, .slice none 0 0] 28)) ⟨h31.size, 0, none⟩ v38 fun h48 => stH h48 ⟨h31.size, 1, none⟩ v39 fun h49 => stH h49 ⟨h31.size, 2, none⟩ v40 fun h50 => stH h50 ⟨h31.size, 3, none⟩ v41 fun h51 => stH h51 ⟨h31.size, 4, none⟩ v42 fun h52 => stH h52 ⟨h31.size, 5, none⟩ v43 fun h53 => stH h53 ⟨h31.size, 6, none⟩ v44 fun h54 => stH h54 ⟨h31.size, 7, none⟩ v45 fun h55 => stH h55 ⟨h31.size, 8, none⟩ v46 fun h56 => stH h56 ⟨h31.size, 9, none⟩ v47 fun h57 => ldH h57 ⟨h31.size, 0, none⟩ fun v58 => ldH h57 ⟨h31.size, 1, none⟩ fun v59 => ldH h57 ⟨h31.size, 2, none⟩ fun v60 => ldH h57 ⟨h31.size, 3, none⟩ fun v61 => ldH h57 ⟨h31.size, 4, none⟩ fun v62 => ldH h57 ⟨h31.size, 5, none⟩ fun v63 => ldH h57 ⟨h31.size, 6, none⟩ fun v64 => ldH h57 ⟨h31.size, 7, none⟩ fun v65 => ldH h57 ⟨h31.size, 8, none⟩ fun v66 => ldH h57 ⟨h31.size, 9, none⟩ fun v67 => cf 18 #[] h57 fun v68 h69 => asAgg v68 fun vs70 => sizeH vs70 2 (elemH vs70 0 fun v71 => elemH vs70 1 fun v72 => ce h69 h31.size 0 v58 (ce h69 h31.size 1 v59 (ce h69 h31.size 2 v60 (ce h69 h31.size 3 v61 (ce h69 h31.size 4 v62 (ce h69 h31.size 5 v63 (ce h69 h31.size 6 v64 (ce h69 h31.size 7 v65 (ce h69 h31.size 8 v66 (ce h69 h31.size 9 v67 (cf 10 #[.agg #[v71, v72], .agg #[v58, v59, v60, v61, v62, v63, v64, v65, v66, v67]] h69 fun v73 h74 => asBool v73 fun b75 => ifB b75 (cf 16 #[] h74 fun v76 h77 => asBool v76 fun b78 => K (.bool b78) h77) (K (.bool false) h74)))))))))))))))
def F5 (K : Value → Heap → Prop) (h : Heap) (xa xb xc xd xe xf xg : Int) (xh : Option Addr) (xi xj : Nat) (xk : Option Addr) (xl xm : Nat) (xn : Option Addr) (xo xp : Nat) (xq xr xs xt xu xv xw : Int) : Prop :=
  (g5 K h (Array.push h (.cells #[.int .i64 xa, .int .i64 xb, .int .i64 xc, .int .i64 xd, .int .i64 xe, .int .i64 xf, .int .i64 xg, .slice xh xi xj, .slice xk xl xm, .slice xn xo xp] 28)) (Array.push (Array.push h (.cells #[.int .i64 xa, .int .i64 xb, .int .i64 xc, .int .i64 xd, .int .i64 xe, .int .i64 xf, .int .i64 xg, .slice xh xi xj, .slice xk xl xm, .slice xn xo xp] 28)) (.cells #[.int .i64 xq, .int .i64 xr, .int .i64 xs, .int .i64 xt, .int .i64 xu, .int .i64 xv, .int .i64 xw] 23)))
theorem call5 {K : Value → Heap → Prop} {h : Heap} {xa xb xc xd xe xf xg : Int} {xh : Option Addr} {xi xj : Nat} {xk : Option Addr} {xl xm : Nat} {xn : Option Addr} {xo xp : Nat} {xq xr xs xt xu xv xw : Int} (H : F5 K h xa xb xc xd xe xf xg xh xi xj xk xl xm xn xo xp xq xr xs xt xu xv xw) : CallH Tryz.prog 5 #[(.agg #[(.int .i64 xa), (.int .i64 xb), (.int .i64 xc), (.int .i64 xd), (.int .i64 xe), (.int .i64 xf), (.int .i64 xg), (.slice xh xi xj), (.slice xk xl xm), (.slice xn xo xp)]), (.agg #[(.int .i64 xq), (.int .i64 xr), (.int .i64 xs), (.int .i64 xt), (.int .i64 xu), (.int .i64 xv), (.int .i64 xw)])] h K :=
  callH_mk Tryz.func5 (by kernel_rfl) (Eq.mp (by kernel_rfl) H)
def blindTail (K : Value → Heap → Prop) (o15 o34 : Option Addr) (A B : Nat) (h0 : Heap) : Prop :=
  (lS h0 ⟨A, 0, none⟩ fun o530 k531 k532 => lS h0 ⟨B, 0, none⟩ fun o534 k535 k536 => ifB ((k531 : Int) != (k535 : Int)) (K (.bool false) h0) (exI fun I537 => exM fun m538 => (I537 [.bool false, .int .i64 0] h0) ∧ (∀ (v539 v540 : Value) (g541 : Env) (h542 : Heap), (I537 [v539, v540] h542) → (asInt .i64 v540 fun n543 => lS h542 ⟨A, 0, none⟩ fun o545 k546 k547 => ifB (decide (n543 < (k546 : Int))) (lS h542 ⟨A, 0, none⟩ fun o549 k550 k551 => asInt .i64 v540 fun n552 => bd n552 (k550 : Int) (asPtr (.pointer o549) fun a553 => ldH h542 (Addr.add a553 (n552.toNat * 8)) fun v554 => ldH h542 (Addr.add (Addr.add a553 (n552.toNat * 8)) 1) fun v555 => ldH h542 (Addr.add (Addr.add a553 (n552.toNat * 8)) 2) fun v556 => ldH h542 (Addr.add (Addr.add a553 (n552.toNat * 8)) 3) fun v557 => ldH h542 (Addr.add (Addr.add a553 (n552.toNat * 8)) 4) fun v558 => ldH h542 (Addr.add (Addr.add a553 (n552.toNat * 8)) 5) fun v559 => ldH h542 (Addr.add (Addr.add a553 (n552.toNat * 8)) 6) fun v560 => ldH h542 (Addr.add (Addr.add a553 (n552.toNat * 8)) 7) fun v561 => lS h542 ⟨B, 0, none⟩ fun o563 k564 k565 => asInt .i64 v540 fun n566 => bd n566 (k564 : Int) (asPtr (.pointer o563) fun a567 => ldH h542 (Addr.add a567 (n566.toNat * 8)) fun v568 => ldH h542 (Addr.add (Addr.add a567 (n566.toNat * 8)) 1) fun v569 => ldH h542 (Addr.add (Addr.add a567 (n566.toNat * 8)) 2) fun v570 => ldH h542 (Addr.add (Addr.add a567 (n566.toNat * 8)) 3) fun v571 => ldH h542 (Addr.add (Addr.add a567 (n566.toNat * 8)) 4) fun v572 => ldH h542 (Addr.add (Addr.add a567 (n566.toNat * 8)) 5) fun v573 => ldH h542 (Addr.add (Addr.add a567 (n566.toNat * 8)) 6) fun v574 => ldH h542 (Addr.add (Addr.add a567 (n566.toNat * 8)) 7) fun v575 => eqvH Tryz.prog 59 (.agg #[v554, v555, v556, v557, v558, v559, v560, v561]) (.agg #[v568, v569, v570, v571, v572, v573, v574, v575]) fun b576 => ifB (!b576) (K (.bool false) h542) (asInt .i64 v540 fun n577 => (I537 [v539, .int .i64 (IntKind.wrap .i64 (n577 + 1))] h542) ∧ ((m538 [v539, .int .i64 (IntKind.wrap .i64 (n577 + 1))] h542) < (m538 [v539, v540] h542)))))) (cf 24 #[.pointer o15] h542 fun v578 h579 => asPtrO v578 fun o580 => cf 25 #[.pointer o580] h579 fun v581 h582 => asSlice v581 fun o583 k584 k585 => cf 24 #[.pointer o34] h582 fun v586 h587 => asPtrO v586 fun o588 => cf 25 #[.pointer o588] h587 fun v589 h590 => asSlice v589 fun o591 k592 k593 => exI fun I594 => (ifB ((k584 : Int) != (k592 : Int)) (I594 [.bool true] h590) (cf 24 #[.pointer o15] h590 fun v595 h596 => asPtrO v595 fun o597 => cf 26 #[.pointer o597] h596 fun v598 h599 => asInt .i64 v598 fun n600 => cf 24 #[.pointer o34] h599 fun v601 h602 => asPtrO v601 fun o603 => cf 26 #[.pointer o603] h602 fun v604 h605 => asInt .i64 v604 fun n606 => I594 [.bool (n600 != n606)] h605)) ∧ (∀ (v607 : Value) (g608 : Env) (h609 : Heap), (I594 [v607] h609) → (asBool v607 fun b610 => ifB b610 (K (.bool false) h609) (exI fun I611 => exM fun m612 => (I611 [v539, .int .i64 0] h609) ∧ (∀ (v613 v614 : Value) (g615 : Env) (h616 : Heap), (I611 [v613, v614] h616) → (asInt .i64 v614 fun n617 => ifB (decide (n617 < (k584 : Int))) (asInt .i64 v614 fun n618 => bd n618 (k584 : Int) (asPtr (.pointer o583) fun a619 => lI .u64 h616 (Addr.add a619 (n618.toNat * 1)) fun n621 => asInt .i64 v614 fun n622 => bd n622 (k592 : Int) (asPtr (.pointer o591) fun a623 => lI .u64 h616 (Addr.add a623 (n622.toNat * 1)) fun n625 => ifB (n621 != n625) (K (.bool false) h616) (asInt .i64 v614 fun n626 => (I611 [v613, .int .i64 (IntKind.wrap .i64 (n626 + 1))] h616) ∧ ((m612 [v613, .int .i64 (IntKind.wrap .i64 (n626 + 1))] h616) < (m612 [v613, v614] h616)))))) (K (.bool true) h616)))))))))))
abbrev q10_1 : Obj := (.cells #[(.slice none 0 0), (.bool false), (.bool false), (.int .i64 0)] 56)
abbrev q10_2 (h63 : Heap) : Heap := (Array.push h63 q10_1)
abbrev q10_3 (h31 : Heap) : Heap := (Array.push h31 q10_1)
abbrev q10_4 (h70 : Heap) : Heap := (Array.push h70 q10_1)
abbrev q10_5 (h70 : Heap) : Heap := (Array.push (q10_4 h70) q10_1)
abbrev q10_6 (h63 : Heap) : Heap := (Array.push (q10_2 h63) q10_1)
abbrev q10_7 (h31 : Heap) : Heap := (Array.push (q10_3 h31) q10_1)
abbrev q10_8 (h289 : Heap) : Heap := (Array.push h289 q10_1)
abbrev q10_9 (h515 : Heap) : Heap := (Array.push h515 q10_1)
abbrev q10_10 (h748 : Heap) : Heap := (Array.push h748 q10_1)
abbrev q10_11 (h741 : Heap) : Heap := (Array.push h741 q10_1)
abbrev q10_12 (h1101 : Heap) : Heap := (Array.push h1101 q10_1)
abbrev q10_13 (h1094 : Heap) : Heap := (Array.push h1094 q10_1)
abbrev g10 (K : Value → Heap → Prop) (h H1 H2 : Heap) : Prop :=
  (ldH H2 ⟨H1.size, 0, none⟩ fun v0 => ldH H2 (Addr.add ⟨H1.size, 0, none⟩ 1) fun v1 => ldH H2 (Addr.add ⟨H1.size, 0, none⟩ 2) fun v2 => ldH H2 (Addr.add ⟨H1.size, 0, none⟩ 3) fun v3 => ldH H2 (Addr.add ⟨H1.size, 0, none⟩ 4) fun v4 => ldH H2 (Addr.add ⟨H1.size, 0, none⟩ 5) fun v5 => ldH H2 (Addr.add ⟨H1.size, 0, none⟩ 6) fun v6 => lS H2 ⟨H1.size, 9, none⟩ fun o8 k9 k10 => cf 20 #[.agg #[v0, v1, v2, v3, v4, v5, v6], .slice o8 k9 k10, .bool true] H2 fun v11 h12 => asTup v11 fun vs13 => elemH vs13 0 fun v14 => asPtrO v14 fun o15 => asTup v11 fun vs16 => elemH vs16 1 fun v17 => asInt .i64 v17 fun n18 => ifB (Option.isNone o15) (K (.bool false) h12) (ldH h12 ⟨H1.size, 0, none⟩ fun v19 => ldH h12 (Addr.add ⟨H1.size, 0, none⟩ 1) fun v20 => ldH h12 (Addr.add ⟨H1.size, 0, none⟩ 2) fun v21 => ldH h12 (Addr.add ⟨H1.size, 0, none⟩ 3) fun v22 => ldH h12 (Addr.add ⟨H1.size, 0, none⟩ 4) fun v23 => ldH h12 (Addr.add ⟨H1.size, 0, none⟩ 5) fun v24 => ldH h12 (Addr.add ⟨H1.size, 0, none⟩ 6) fun v25 => lS h12 ⟨H1.size, 9, none⟩ fun o27 k28 k29 => cf 20 #[.agg #[v19, v20, v21, v22, v23, v24, v25], .slice o27 k28 k29, .bool false] h12 fun v30 h31 => asTup v30 fun vs32 => elemH vs32 0 fun v33 => asPtrO v33 fun o34 => asTup v30 fun vs35 => elemH vs35 1 fun v36 => asInt .i64 v36 fun n37 => ldH h31 ⟨h.size, 0, none⟩ fun v38 => ldH h31 ⟨h.size, 1, none⟩ fun v39 => ldH h31 ⟨H1.size, 0, none⟩ fun v40 => ldH h31 ⟨H1.size, 1, none⟩ fun v41 => ldH h31 ⟨H1.size, 2, none⟩ fun v42 => ldH h31 ⟨H1.size, 3, none⟩ fun v43 => ldH h31 ⟨H1.size, 4, none⟩ fun v44 => ldH h31 ⟨H1.size, 5, none⟩ fun v45 => ldH h31 ⟨H1.size, 6, none⟩ fun v46 => ldH h31 ⟨H1.size, 7, none⟩ fun v47 => ldH h31 ⟨H1.size, 8, none⟩ fun v48 => ldH h31 ⟨H1.size, 9, none⟩ fun v49 => ldH h31 ⟨h.size, 0, none⟩ fun v50 => ldH h31 ⟨h.size, 1, none⟩ fun v51 => ldH h31 ⟨H1.size, 0, none⟩ fun v52 => ldH h31 ⟨H1.size, 1, none⟩ fun v53 => ldH h31 ⟨H1.size, 2, none⟩ fun v54 => ldH h31 ⟨H1.size, 3, none⟩ fun v55 => ldH h31 ⟨H1.size, 4, none⟩ fun v56 => ldH h31 ⟨H1.size, 5, none⟩ fun v57 => ldH h31 ⟨H1.size, 6, none⟩ fun v58 => ldH h31 ⟨H1.size, 7, none⟩ fun v59 => ldH h31 ⟨H1.size, 8, none⟩ fun v60 => ldH h31 ⟨H1.size, 9, none⟩ fun v61 => (cf 23 #[.agg #[v38, v39], .pointer o15, .agg #[v40, v41, v42, v43, v44, v45, v46, v47, v48, v49]] h31 fun v62 h63 => asAgg v62 fun vs64 => sizeH vs64 4 (elemH vs64 0 fun v65 => elemH vs64 1 fun v66 => elemH vs64 2 fun v67 => elemH vs64 3 fun v68 => ce h63 H1.size 0 v52 (ce h63 H1.size 1 v53 (ce h63 H1.size 2 v54 (ce h63 H1.size 3 v55 (ce h63 H1.size 4 v56 (ce h63 H1.size 5 v57 (ce h63 H1.size 6 v58 (ce h63 H1.size 7 v59 (ce h63 H1.size 8 v60 (ce h63 H1.size 9 v61 (ce h63 h.size 0 v50 (ce h63 h.size 1 v51 ((cf 23 #[.agg #[v50, v51], .pointer o34, .agg #[v52, v53, v54, v55, v56, v57, v58, v59, v60, v61]] h63 fun v69 h70 => asAgg v69 fun vs71 => sizeH vs71 4 (elemH vs71 0 fun v72 => elemH vs71 1 fun v73 => elemH vs71 2 fun v74 => elemH vs71 3 fun v75 => (ce (q10_4 h70) H1.size 0 v52 (ce (q10_4 h70) H1.size 1 v53 (ce (q10_4 h70) H1.size 2 v54 (ce (q10_4 h70) H1.size 3 v55 (ce (q10_4 h70) H1.size 4 v56 (ce (q10_4 h70) H1.size 5 v57 (ce (q10_4 h70) H1.size 6 v58 (ce (q10_4 h70) H1.size 7 v59 (ce (q10_4 h70) H1.size 8 v60 (ce (q10_4 h70) H1.size 9 v61 (ce (q10_4 h70) h.size 0 v50 (ce (q10_4 h70) h.size 1 v51 (ce (q10_4 h70) H1.size 0 v40 (ce (q10_4 h70) H1.size 1 v41 (ce (q10_4 h70) H1.size 2 v42 (ce (q10_4 h70) H1.size 3 v43 (ce (q10_4 h70) H1.size 4 v44 (ce (q10_4 h70) H1.size 5 v45 (ce (q10_4 h70) H1.size 6 v46 (ce (q10_4 h70) H1.size 7 v47 (ce (q10_4 h70) H1.size 8 v48 (ce (q10_4 h70) H1.size 9 v49 (ce (q10_4 h70) h.size 0 v38 (ce (q10_4 h70) h.size 1 v39 (ce (q10_5 h70) H1.size 0 v52 (ce (q10_5 h70) H1.size 1 v53 (ce (q10_5 h70) H1.size 2 v54 (ce (q10_5 h70) H1.size 3 v55 (ce (q10_5 h70) H1.size 4 v56 (ce (q10_5 h70) H1.size 5 v57 (ce (q10_5 h70) H1.size 6 v58 (ce (q10_5 h70) H1.size 7 v59 (ce (q10_5 h70) H1.size 8 v60 (ce (q10_5 h70) H1.size 9 v61 (ce (q10_5 h70) h.size 0 v50 (ce (q10_5 h70) h.size 1 v51 (ce (q10_5 h70) H1.size 0 v40 (ce (q10_5 h70) H1.size 1 v41 (ce (q10_5 h70) H1.size 2 v42 (ce (q10_5 h70) H1.size 3 v43 (ce (q10_5 h70) H1.size 4 v44 (ce (q10_5 h70) H1.size 5 v45 (ce (q10_5 h70) H1.size 6 v46 (ce (q10_5 h70) H1.size 7 v47 (ce (q10_5 h70) H1.size 8 v48 (ce (q10_5 h70) H1.size 9 v49 (ce (q10_5 h70) h.size 0 v38 (ce (q10_5 h70) h.size 1 v39 (stH (q10_5 h70) ⟨h70.size, 0, none⟩ v65 fun h76 => stH h76 ⟨h70.size, 1, none⟩ v66 fun h77 => stH h77 ⟨h70.size, 2, none⟩ v67 fun h78 => stH h78 ⟨h70.size, 3, none⟩ v68 fun h79 => stH h79 ⟨(q10_4 h70).size, 0, none⟩ v72 fun h80 => stH h80 ⟨(q10_4 h70).size, 1, none⟩ v73 fun h81 => stH h81 ⟨(q10_4 h70).size, 2, none⟩ v74 fun h82 => stH h82 ⟨(q10_4 h70).size, 3, none⟩ v75 fun h83 => blindTail K o15 o34 h70.size (q10_4 h70).size h83))))))))))))))))))))))))))))))))))))))))))))))))) ∧ (ce (q10_4 h70) H1.size 0 v52 (ce (q10_4 h70) H1.size 1 v53 (ce (q10_4 h70) H1.size 2 v54 (ce (q10_4 h70) H1.size 3 v55 (ce (q10_4 h70) H1.size 4 v56 (ce (q10_4 h70) H1.size 5 v57 (ce (q10_4 h70) H1.size 6 v58 (ce (q10_4 h70) H1.size 7 v59 (ce (q10_4 h70) H1.size 8 v60 (ce (q10_4 h70) H1.size 9 v61 (ce (q10_4 h70) h.size 0 v50 (ce (q10_4 h70) h.size 1 v51 (ce (q10_4 h70) H1.size 0 v40 (ce (q10_4 h70) H1.size 1 v41 (ce (q10_4 h70) H1.size 2 v42 (ce (q10_4 h70) H1.size 3 v43 (ce (q10_4 h70) H1.size 4 v44 (ce (q10_4 h70) H1.size 5 v45 (ce (q10_4 h70) H1.size 6 v46 (ce (q10_4 h70) H1.size 7 v47 (ce (q10_4 h70) H1.size 8 v48 (ce (q10_4 h70) H1.size 9 v49 (ce (q10_4 h70) h.size 0 v38 (ce (q10_4 h70) h.size 1 v39 (ce (q10_5 h70) H1.size 0 v52 (ce (q10_5 h70) H1.size 1 v53 (ce (q10_5 h70) H1.size 2 v54 (ce (q10_5 h70) H1.size 3 v55 (ce (q10_5 h70) H1.size 4 v56 (ce (q10_5 h70) H1.size 5 v57 (ce (q10_5 h70) H1.size 6 v58 (ce (q10_5 h70) H1.size 7 v59 (ce (q10_5 h70) H1.size 8 v60 (ce (q10_5 h70) H1.size 9 v61 (ce (q10_5 h70) h.size 0 v50 (ce (q10_5 h70) h.size 1 v51 (ce (q10_5 h70) H1.size 0 v40 (ce (q10_5 h70) H1.size 1 v41 (ce (q10_5 h70) H1.size 2 v42 (ce (q10_5 h70) H1.size 3 v43 (ce (q10_5 h70) H1.size 4 v44 (ce (q10_5 h70) H1.size 5 v45 (ce (q10_5 h70) H1.size 6 v46 (ce (q10_5 h70) H1.size 7 v47 (ce (q10_5 h70) H1.size 8 v48 (ce (q10_5 h70) H1.size 9 v49 (ce (q10_5 h70) h.size 0 v38 (ce (q10_5 h70) h.size 1 v39 (stH (q10_5 h70) ⟨(q10_4 h70).size, 0, none⟩ v65 fun h182 => stH h182 ⟨(q10_4 h70).size, 1, none⟩ v66 fun h183 => stH h183 ⟨(q10_4 h70).size, 2, none⟩ v67 fun h184 => stH h184 ⟨(q10_4 h70).size, 3, none⟩ v68 fun h185 => stH h185 ⟨h70.size, 0, none⟩ v72 fun h186 => stH h186 ⟨h70.size, 1, none⟩ v73 fun h187 => stH h187 ⟨h70.size, 2, none⟩ v74 fun h188 => stH h188 ⟨h70.size, 3, none⟩ v75 fun h189 => blindTail K o15 o34 (q10_4 h70).size h70.size h189))))))))))))))))))))))))))))))))))))))))))))))))))) ∧ ((ce (q10_2 h63) H1.size 0 v52 (ce (q10_2 h63) H1.size 1 v53 (ce (q10_2 h63) H1.size 2 v54 (ce (q10_2 h63) H1.size 3 v55 (ce (q10_2 h63) H1.size 4 v56 (ce (q10_2 h63) H1.size 5 v57 (ce (q10_2 h63) H1.size 6 v58 (ce (q10_2 h63) H1.size 7 v59 (ce (q10_2 h63) H1.size 8 v60 (ce (q10_2 h63) H1.size 9 v61 (ce (q10_2 h63) h.size 0 v50 (ce (q10_2 h63) h.size 1 v51 (ce (q10_2 h63) H1.size 0 v40 (ce (q10_2 h63) H1.size 1 v41 (ce (q10_2 h63) H1.size 2 v42 (ce (q10_2 h63) H1.size 3 v43 (ce (q10_2 h63) H1.size 4 v44 (ce (q10_2 h63) H1.size 5 v45 (ce (q10_2 h63) H1.size 6 v46 (ce (q10_2 h63) H1.size 7 v47 (ce (q10_2 h63) H1.size 8 v48 (ce (q10_2 h63) H1.size 9 v49 (ce (q10_2 h63) h.size 0 v38 (ce (q10_2 h63) h.size 1 v39 ((cf 23 #[.agg #[v50, v51], .pointer o34, .agg #[v52, v53, v54, v55, v56, v57, v58, v59, v60, v61]] (q10_2 h63) fun v288 h289 => asAgg v288 fun vs290 => sizeH vs290 4 (elemH vs290 0 fun v291 => elemH vs290 1 fun v292 => elemH vs290 2 fun v293 => elemH vs290 3 fun v294 => ce (q10_8 h289) H1.size 0 v52 (ce (q10_8 h289) H1.size 1 v53 (ce (q10_8 h289) H1.size 2 v54 (ce (q10_8 h289) H1.size 3 v55 (ce (q10_8 h289) H1.size 4 v56 (ce (q10_8 h289) H1.size 5 v57 (ce (q10_8 h289) H1.size 6 v58 (ce (q10_8 h289) H1.size 7 v59 (ce (q10_8 h289) H1.size 8 v60 (ce (q10_8 h289) H1.size 9 v61 (ce (q10_8 h289) h.size 0 v50 (ce (q10_8 h289) h.size 1 v51 (ce (q10_8 h289) H1.size 0 v40 (ce (q10_8 h289) H1.size 1 v41 (ce (q10_8 h289) H1.size 2 v42 (ce (q10_8 h289) H1.size 3 v43 (ce (q10_8 h289) H1.size 4 v44 (ce (q10_8 h289) H1.size 5 v45 (ce (q10_8 h289) H1.size 6 v46 (ce (q10_8 h289) H1.size 7 v47 (ce (q10_8 h289) H1.size 8 v48 (ce (q10_8 h289) H1.size 9 v49 (ce (q10_8 h289) h.size 0 v38 (ce (q10_8 h289) h.size 1 v39 (stH (q10_8 h289) ⟨h63.size, 0, none⟩ v65 fun h295 => stH h295 ⟨h63.size, 1, none⟩ v66 fun h296 => stH h296 ⟨h63.size, 2, none⟩ v67 fun h297 => stH h297 ⟨h63.size, 3, none⟩ v68 fun h298 => stH h298 ⟨h289.size, 0, none⟩ v291 fun h299 => stH h299 ⟨h289.size, 1, none⟩ v292 fun h300 => stH h300 ⟨h289.size, 2, none⟩ v293 fun h301 => stH h301 ⟨h289.size, 3, none⟩ v294 fun h302 => blindTail K o15 o34 h63.size h289.size h302)))))))))))))))))))))))))) ∧ (ce (q10_6 h63) H1.size 0 v52 (ce (q10_6 h63) H1.size 1 v53 (ce (q10_6 h63) H1.size 2 v54 (ce (q10_6 h63) H1.size 3 v55 (ce (q10_6 h63) H1.size 4 v56 (ce (q10_6 h63) H1.size 5 v57 (ce (q10_6 h63) H1.size 6 v58 (ce (q10_6 h63) H1.size 7 v59 (ce (q10_6 h63) H1.size 8 v60 (ce (q10_6 h63) H1.size 9 v61 (ce (q10_6 h63) h.size 0 v50 (ce (q10_6 h63) h.size 1 v51 (ce (q10_6 h63) H1.size 0 v40 (ce (q10_6 h63) H1.size 1 v41 (ce (q10_6 h63) H1.size 2 v42 (ce (q10_6 h63) H1.size 3 v43 (ce (q10_6 h63) H1.size 4 v44 (ce (q10_6 h63) H1.size 5 v45 (ce (q10_6 h63) H1.size 6 v46 (ce (q10_6 h63) H1.size 7 v47 (ce (q10_6 h63) H1.size 8 v48 (ce (q10_6 h63) H1.size 9 v49 (ce (q10_6 h63) h.size 0 v38 (ce (q10_6 h63) h.size 1 v39 (cf 23 #[.agg #[v50, v51], .pointer o34, .agg #[v52, v53, v54, v55, v56, v57, v58, v59, v60, v61]] (q10_6 h63) fun v401 h402 => asAgg v401 fun vs403 => sizeH vs403 4 (elemH vs403 0 fun v404 => elemH vs403 1 fun v405 => elemH vs403 2 fun v406 => elemH vs403 3 fun v407 => stH h402 ⟨h63.size, 0, none⟩ v65 fun h408 => stH h408 ⟨h63.size, 1, none⟩ v66 fun h409 => stH h409 ⟨h63.size, 2, none⟩ v67 fun h410 => stH h410 ⟨h63.size, 3, none⟩ v68 fun h411 => stH h411 ⟨(q10_2 h63).size, 0, none⟩ v404 fun h412 => stH h412 ⟨(q10_2 h63).size, 1, none⟩ v405 fun h413 => stH h413 ⟨(q10_2 h63).size, 2, none⟩ v406 fun h414 => stH h414 ⟨(q10_2 h63).size, 3, none⟩ v407 fun h415 => blindTail K o15 o34 h63.size (q10_2 h63).size h415))))))))))))))))))))))))))))))))))))))))))))))))))) ∧ (ce (q10_2 h63) H1.size 0 v52 (ce (q10_2 h63) H1.size 1 v53 (ce (q10_2 h63) H1.size 2 v54 (ce (q10_2 h63) H1.size 3 v55 (ce (q10_2 h63) H1.size 4 v56 (ce (q10_2 h63) H1.size 5 v57 (ce (q10_2 h63) H1.size 6 v58 (ce (q10_2 h63) H1.size 7 v59 (ce (q10_2 h63) H1.size 8 v60 (ce (q10_2 h63) H1.size 9 v61 (ce (q10_2 h63) h.size 0 v50 (ce (q10_2 h63) h.size 1 v51 (ce (q10_2 h63) H1.size 0 v40 (ce (q10_2 h63) H1.size 1 v41 (ce (q10_2 h63) H1.size 2 v42 (ce (q10_2 h63) H1.size 3 v43 (ce (q10_2 h63) H1.size 4 v44 (ce (q10_2 h63) H1.size 5 v45 (ce (q10_2 h63) H1.size 6 v46 (ce (q10_2 h63) H1.size 7 v47 (ce (q10_2 h63) H1.size 8 v48 (ce (q10_2 h63) H1.size 9 v49 (ce (q10_2 h63) h.size 0 v38 (ce (q10_2 h63) h.size 1 v39 ((cf 23 #[.agg #[v50, v51], .pointer o34, .agg #[v52, v53, v54, v55, v56, v57, v58, v59, v60, v61]] (q10_2 h63) fun v514 h515 => asAgg v514 fun vs516 => sizeH vs516 4 (elemH vs516 0 fun v517 => elemH vs516 1 fun v518 => elemH vs516 2 fun v519 => elemH vs516 3 fun v520 => ce (q10_9 h515) H1.size 0 v52 (ce (q10_9 h515) H1.size 1 v53 (ce (q10_9 h515) H1.size 2 v54 (ce (q10_9 h515) H1.size 3 v55 (ce (q10_9 h515) H1.size 4 v56 (ce (q10_9 h515) H1.size 5 v57 (ce (q10_9 h515) H1.size 6 v58 (ce (q10_9 h515) H1.size 7 v59 (ce (q10_9 h515) H1.size 8 v60 (ce (q10_9 h515) H1.size 9 v61 (ce (q10_9 h515) h.size 0 v50 (ce (q10_9 h515) h.size 1 v51 (ce (q10_9 h515) H1.size 0 v40 (ce (q10_9 h515) H1.size 1 v41 (ce (q10_9 h515) H1.size 2 v42 (ce (q10_9 h515) H1.size 3 v43 (ce (q10_9 h515) H1.size 4 v44 (ce (q10_9 h515) H1.size 5 v45 (ce (q10_9 h515) H1.size 6 v46 (ce (q10_9 h515) H1.size 7 v47 (ce (q10_9 h515) H1.size 8 v48 (ce (q10_9 h515) H1.size 9 v49 (ce (q10_9 h515) h.size 0 v38 (ce (q10_9 h515) h.size 1 v39 (stH (q10_9 h515) ⟨h515.size, 0, none⟩ v65 fun h521 => stH h521 ⟨h515.size, 1, none⟩ v66 fun h522 => stH h522 ⟨h515.size, 2, none⟩ v67 fun h523 => stH h523 ⟨h515.size, 3, none⟩ v68 fun h524 => stH h524 ⟨h63.size, 0, none⟩ v517 fun h525 => stH h525 ⟨h63.size, 1, none⟩ v518 fun h526 => stH h526 ⟨h63.size, 2, none⟩ v519 fun h527 => stH h527 ⟨h63.size, 3, none⟩ v520 fun h528 => blindTail K o15 o34 h515.size h63.size h528)))))))))))))))))))))))))) ∧ (ce (q10_6 h63) H1.size 0 v52 (ce (q10_6 h63) H1.size 1 v53 (ce (q10_6 h63) H1.size 2 v54 (ce (q10_6 h63) H1.size 3 v55 (ce (q10_6 h63) H1.size 4 v56 (ce (q10_6 h63) H1.size 5 v57 (ce (q10_6 h63) H1.size 6 v58 (ce (q10_6 h63) H1.size 7 v59 (ce (q10_6 h63) H1.size 8 v60 (ce (q10_6 h63) H1.size 9 v61 (ce (q10_6 h63) h.size 0 v50 (ce (q10_6 h63) h.size 1 v51 (ce (q10_6 h63) H1.size 0 v40 (ce (q10_6 h63) H1.size 1 v41 (ce (q10_6 h63) H1.size 2 v42 (ce (q10_6 h63) H1.size 3 v43 (ce (q10_6 h63) H1.size 4 v44 (ce (q10_6 h63) H1.size 5 v45 (ce (q10_6 h63) H1.size 6 v46 (ce (q10_6 h63) H1.size 7 v47 (ce (q10_6 h63) H1.size 8 v48 (ce (q10_6 h63) H1.size 9 v49 (ce (q10_6 h63) h.size 0 v38 (ce (q10_6 h63) h.size 1 v39 (cf 23 #[.agg #[v50, v51], .pointer o34, .agg #[v52, v53, v54, v55, v56, v57, v58, v59, v60, v61]] (q10_6 h63) fun v627 h628 => asAgg v627 fun vs629 => sizeH vs629 4 (elemH vs629 0 fun v630 => elemH vs629 1 fun v631 => elemH vs629 2 fun v632 => elemH vs629 3 fun v633 => stH h628 ⟨(q10_2 h63).size, 0, none⟩ v65 fun h634 => stH h634 ⟨(q10_2 h63).size, 1, none⟩ v66 fun h635 => stH h635 ⟨(q10_2 h63).size, 2, none⟩ v67 fun h636 => stH h636 ⟨(q10_2 h63).size, 3, none⟩ v68 fun h637 => stH h637 ⟨h63.size, 0, none⟩ v630 fun h638 => stH h638 ⟨h63.size, 1, none⟩ v631 fun h639 => stH h639 ⟨h63.size, 2, none⟩ v632 fun h640 => stH h640 ⟨h63.size, 3, none⟩ v633 fun h641 => blindTail K o15 o34 (q10_2 h63).size h63.size h641)))))))))))))))))))))))))))))))))))))))))))))))))))))))))))))))))) ∧ ((ce (q10_3 h31) H1.size 0 v52 (ce (q10_3 h31) H1.size 1 v53 (ce (q10_3 h31) H1.size 2 v54 (ce (q10_3 h31) H1.size 3 v55 (ce (q10_3 h31) H1.size 4 v56 (ce (q10_3 h31) H1.size 5 v57 (ce (q10_3 h31) H1.size 6 v58 (ce (q10_3 h31) H1.size 7 v59 (ce (q10_3 h31) H1.size 8 v60 (ce (q10_3 h31) H1.size 9 v61 (ce (q10_3 h31) h.size 0 v50 (ce (q10_3 h31) h.size 1 v51 (ce (q10_3 h31) H1.size 0 v40 (ce (q10_3 h31) H1.size 1 v41 (ce (q10_3 h31) H1.size 2 v42 (ce (q10_3 h31) H1.size 3 v43 (ce (q10_3 h31) H1.size 4 v44 (ce (q10_3 h31) H1.size 5 v45 (ce (q10_3 h31) H1.size 6 v46 (ce (q10_3 h31) H1.size 7 v47 (ce (q10_3 h31) H1.size 8 v48 (ce (q10_3 h31) H1.size 9 v49 (ce (q10_3 h31) h.size 0 v38 (ce (q10_3 h31) h.size 1 v39 ((cf 23 #[.agg #[v38, v39], .pointer o15, .agg #[v40, v41, v42, v43, v44, v45, v46, v47, v48, v49]] (q10_3 h31) fun v740 h741 => asAgg v740 fun vs742 => sizeH vs742 4 (elemH vs742 0 fun v743 => elemH vs742 1 fun v744 => elemH vs742 2 fun v745 => elemH vs742 3 fun v746 => ce h741 H1.size 0 v52 (ce h741 H1.size 1 v53 (ce h741 H1.size 2 v54 (ce h741 H1.size 3 v55 (ce h741 H1.size 4 v56 (ce h741 H1.size 5 v57 (ce h741 H1.size 6 v58 (ce h741 H1.size 7 v59 (ce h741 H1.size 8 v60 (ce h741 H1.size 9 v61 (ce h741 h.size 0 v50 (ce h741 h.size 1 v51 ((cf 23 #[.agg #[v50, v51], .pointer o34, .agg #[v52, v53, v54, v55, v56, v57, v58, v59, v60, v61]] h741 fun v747 h748 => asAgg v747 fun vs749 => sizeH vs749 4 (elemH vs749 0 fun v750 => elemH vs749 1 fun v751 => elemH vs749 2 fun v752 => elemH vs749 3 fun v753 => ce (q10_10 h748) H1.size 0 v52 (ce (q10_10 h748) H1.size 1 v53 (ce (q10_10 h748) H1.size 2 v54 (ce (q10_10 h748) H1.size 3 v55 (ce (q10_10 h748) H1.size 4 v56 (ce (q10_10 h748) H1.size 5 v57 (ce (q10_10 h748) H1.size 6 v58 (ce (q10_10 h748) H1.size 7 v59 (ce (q10_10 h748) H1.size 8 v60 (ce (q10_10 h748) H1.size 9 v61 (ce (q10_10 h748) h.size 0 v50 (ce (q10_10 h748) h.size 1 v51 (ce (q10_10 h748) H1.size 0 v40 (ce (q10_10 h748) H1.size 1 v41 (ce (q10_10 h748) H1.size 2 v42 (ce (q10_10 h748) H1.size 3 v43 (ce (q10_10 h748) H1.size 4 v44 (ce (q10_10 h748) H1.size 5 v45 (ce (q10_10 h748) H1.size 6 v46 (ce (q10_10 h748) H1.size 7 v47 (ce (q10_10 h748) H1.size 8 v48 (ce (q10_10 h748) H1.size 9 v49 (ce (q10_10 h748) h.size 0 v38 (ce (q10_10 h748) h.size 1 v39 (stH (q10_10 h748) ⟨h31.size, 0, none⟩ v743 fun h754 => stH h754 ⟨h31.size, 1, none⟩ v744 fun h755 => stH h755 ⟨h31.size, 2, none⟩ v745 fun h756 => stH h756 ⟨h31.size, 3, none⟩ v746 fun h757 => stH h757 ⟨h748.size, 0, none⟩ v750 fun h758 => stH h758 ⟨h748.size, 1, none⟩ v751 fun h759 => stH h759 ⟨h748.size, 2, none⟩ v752 fun h760 => stH h760 ⟨h748.size, 3, none⟩ v753 fun h761 => blindTail K o15 o34 h31.size h748.size h761)))))))))))))))))))))))))) ∧ (ce (q10_11 h741) H1.size 0 v52 (ce (q10_11 h741) H1.size 1 v53 (ce (q10_11 h741) H1.size 2 v54 (ce (q10_11 h741) H1.size 3 v55 (ce (q10_11 h741) H1.size 4 v56 (ce (q10_11 h741) H1.size 5 v57 (ce (q10_11 h741) H1.size 6 v58 (ce (q10_11 h741) H1.size 7 v59 (ce (q10_11 h741) H1.size 8 v60 (ce (q10_11 h741) H1.size 9 v61 (ce (q10_11 h741) h.size 0 v50 (ce (q10_11 h741) h.size 1 v51 (ce (q10_11 h741) H1.size 0 v40 (ce (q10_11 h741) H1.size 1 v41 (ce (q10_11 h741) H1.size 2 v42 (ce (q10_11 h741) H1.size 3 v43 (ce (q10_11 h741) H1.size 4 v44 (ce (q10_11 h741) H1.size 5 v45 (ce (q10_11 h741) H1.size 6 v46 (ce (q10_11 h741) H1.size 7 v47 (ce (q10_11 h741) H1.size 8 v48 (ce (q10_11 h741) H1.size 9 v49 (ce (q10_11 h741) h.size 0 v38 (ce (q10_11 h741) h.size 1 v39 (cf 23 #[.agg #[v50, v51], .pointer o34, .agg #[v52, v53, v54, v55, v56, v57, v58, v59, v60, v61]] (q10_11 h741) fun v860 h861 => asAgg v860 fun vs862 => sizeH vs862 4 (elemH vs862 0 fun v863 => elemH vs862 1 fun v864 => elemH vs862 2 fun v865 => elemH vs862 3 fun v866 => stH h861 ⟨h31.size, 0, none⟩ v743 fun h867 => stH h867 ⟨h31.size, 1, none⟩ v744 fun h868 => stH h868 ⟨h31.size, 2, none⟩ v745 fun h869 => stH h869 ⟨h31.size, 3, none⟩ v746 fun h870 => stH h870 ⟨h741.size, 0, none⟩ v863 fun h871 => stH h871 ⟨h741.size, 1, none⟩ v864 fun h872 => stH h872 ⟨h741.size, 2, none⟩ v865 fun h873 => stH h873 ⟨h741.size, 3, none⟩ v866 fun h874 => blindTail K o15 o34 h31.size h741.size h874)))))))))))))))))))))))))))))))))))))))) ∧ (ce (q10_7 h31) H1.size 0 v52 (ce (q10_7 h31) H1.size 1 v53 (ce (q10_7 h31) H1.size 2 v54 (ce (q10_7 h31) H1.size 3 v55 (ce (q10_7 h31) H1.size 4 v56 (ce (q10_7 h31) H1.size 5 v57 (ce (q10_7 h31) H1.size 6 v58 (ce (q10_7 h31) H1.size 7 v59 (ce (q10_7 h31) H1.size 8 v60 (ce (q10_7 h31) H1.size 9 v61 (ce (q10_7 h31) h.size 0 v50 (ce (q10_7 h31) h.size 1 v51 (ce (q10_7 h31) H1.size 0 v40 (ce (q10_7 h31) H1.size 1 v41 (ce (q10_7 h31) H1.size 2 v42 (ce (q10_7 h31) H1.size 3 v43 (ce (q10_7 h31) H1.size 4 v44 (ce (q10_7 h31) H1.size 5 v45 (ce (q10_7 h31) H1.size 6 v46 (ce (q10_7 h31) H1.size 7 v47 (ce (q10_7 h31) H1.size 8 v48 (ce (q10_7 h31) H1.size 9 v49 (ce (q10_7 h31) h.size 0 v38 (ce (q10_7 h31) h.size 1 v39 (cf 23 #[.agg #[v38, v39], .pointer o15, .agg #[v40, v41, v42, v43, v44, v45, v46, v47, v48, v49]] (q10_7 h31) fun v973 h974 => asAgg v973 fun vs975 => sizeH vs975 4 (elemH vs975 0 fun v976 => elemH vs975 1 fun v977 => elemH vs975 2 fun v978 => elemH vs975 3 fun v979 => ce h974 H1.size 0 v52 (ce h974 H1.size 1 v53 (ce h974 H1.size 2 v54 (ce h974 H1.size 3 v55 (ce h974 H1.size 4 v56 (ce h974 H1.size 5 v57 (ce h974 H1.size 6 v58 (ce h974 H1.size 7 v59 (ce h974 H1.size 8 v60 (ce h974 H1.size 9 v61 (ce h974 h.size 0 v50 (ce h974 h.size 1 v51 (cf 23 #[.agg #[v50, v51], .pointer o34, .agg #[v52, v53, v54, v55, v56, v57, v58, v59, v60, v61]] h974 fun v980 h981 => asAgg v980 fun vs982 => sizeH vs982 4 (elemH vs982 0 fun v983 => elemH vs982 1 fun v984 => elemH vs982 2 fun v985 => elemH vs982 3 fun v986 => stH h981 ⟨h31.size, 0, none⟩ v976 fun h987 => stH h987 ⟨h31.size, 1, none⟩ v977 fun h988 => stH h988 ⟨h31.size, 2, none⟩ v978 fun h989 => stH h989 ⟨h31.size, 3, none⟩ v979 fun h990 => stH h990 ⟨(q10_3 h31).size, 0, none⟩ v983 fun h991 => stH h991 ⟨(q10_3 h31).size, 1, none⟩ v984 fun h992 => stH h992 ⟨(q10_3 h31).size, 2, none⟩ v985 fun h993 => stH h993 ⟨(q10_3 h31).size, 3, none⟩ v986 fun h994 => blindTail K o15 o34 h31.size (q10_3 h31).size h994)))))))))))))))))))))))))))))))))))))))))))))))))))))))))))))))) ∧ (ce (q10_3 h31) H1.size 0 v52 (ce (q10_3 h31) H1.size 1 v53 (ce (q10_3 h31) H1.size 2 v54 (ce (q10_3 h31) H1.size 3 v55 (ce (q10_3 h31) H1.size 4 v56 (ce (q10_3 h31) H1.size 5 v57 (ce (q10_3 h31) H1.size 6 v58 (ce (q10_3 h31) H1.size 7 v59 (ce (q10_3 h31) H1.size 8 v60 (ce (q10_3 h31) H1.size 9 v61 (ce (q10_3 h31) h.size 0 v50 (ce (q10_3 h31) h.size 1 v51 (ce (q10_3 h31) H1.size 0 v40 (ce (q10_3 h31) H1.size 1 v41 (ce (q10_3 h31) H1.size 2 v42 (ce (q10_3 h31) H1.size 3 v43 (ce (q10_3 h31) H1.size 4 v44 (ce (q10_3 h31) H1.size 5 v45 (ce (q10_3 h31) H1.size 6 v46 (ce (q10_3 h31) H1.size 7 v47 (ce (q10_3 h31) H1.size 8 v48 (ce (q10_3 h31) H1.size 9 v49 (ce (q10_3 h31) h.size 0 v38 (ce (q10_3 h31) h.size 1 v39 ((cf 23 #[.agg #[v38, v39], .pointer o15, .agg #[v40, v41, v42, v43, v44, v45, v46, v47, v48, v49]] (q10_3 h31) fun v1093 h1094 => asAgg v1093 fun vs1095 => sizeH vs1095 4 (elemH vs1095 0 fun v1096 => elemH vs1095 1 fun v1097 => elemH vs1095 2 fun v1098 => elemH vs1095 3 fun v1099 => ce h1094 H1.size 0 v52 (ce h1094 H1.size 1 v53 (ce h1094 H1.size 2 v54 (ce h1094 H1.size 3 v55 (ce h1094 H1.size 4 v56 (ce h1094 H1.size 5 v57 (ce h1094 H1.size 6 v58 (ce h1094 H1.size 7 v59 (ce h1094 H1.size 8 v60 (ce h1094 H1.size 9 v61 (ce h1094 h.size 0 v50 (ce h1094 h.size 1 v51 ((cf 23 #[.agg #[v50, v51], .pointer o34, .agg #[v52, v53, v54, v55, v56, v57, v58, v59, v60, v61]] h1094 fun v1100 h1101 => asAgg v1100 fun vs1102 => sizeH vs1102 4 (elemH vs1102 0 fun v1103 => elemH vs1102 1 fun v1104 => elemH vs1102 2 fun v1105 => elemH vs1102 3 fun v1106 => ce (q10_12 h1101) H1.size 0 v52 (ce (q10_12 h1101) H1.size 1 v53 (ce (q10_12 h1101) H1.size 2 v54 (ce (q10_12 h1101) H1.size 3 v55 (ce (q10_12 h1101) H1.size 4 v56 (ce (q10_12 h1101) H1.size 5 v57 (ce (q10_12 h1101) H1.size 6 v58 (ce (q10_12 h1101) H1.size 7 v59 (ce (q10_12 h1101) H1.size 8 v60 (ce (q10_12 h1101) H1.size 9 v61 (ce (q10_12 h1101) h.size 0 v50 (ce (q10_12 h1101) h.size 1 v51 (ce (q10_12 h1101) H1.size 0 v40 (ce (q10_12 h1101) H1.size 1 v41 (ce (q10_12 h1101) H1.size 2 v42 (ce (q10_12 h1101) H1.size 3 v43 (ce (q10_12 h1101) H1.size 4 v44 (ce (q10_12 h1101) H1.size 5 v45 (ce (q10_12 h1101) H1.size 6 v46 (ce (q10_12 h1101) H1.size 7 v47 (ce (q10_12 h1101) H1.size 8 v48 (ce (q10_12 h1101) H1.size 9 v49 (ce (q10_12 h1101) h.size 0 v38 (ce (q10_12 h1101) h.size 1 v39 (stH (q10_12 h1101) ⟨h1101.size, 0, none⟩ v1096 fun h1107 => stH h1107 ⟨h1101.size, 1, none⟩ v1097 fun h1108 => stH h1108 ⟨h1101.size, 2, none⟩ v1098 fun h1109 => stH h1109 ⟨h1101.size, 3, none⟩ v1099 fun h1110 => stH h1110 ⟨h31.size, 0, none⟩ v1103 fun h1111 => stH h1111 ⟨h31.size, 1, none⟩ v1104 fun h1112 => stH h1112 ⟨h31.size, 2, none⟩ v1105 fun h1113 => stH h1113 ⟨h31.size, 3, none⟩ v1106 fun h1114 => blindTail K o15 o34 h1101.size h31.size h1114)))))))))))))))))))))))))) ∧ (ce (q10_13 h1094) H1.size 0 v52 (ce (q10_13 h1094) H1.size 1 v53 (ce (q10_13 h1094) H1.size 2 v54 (ce (q10_13 h1094) H1.size 3 v55 (ce (q10_13 h1094) H1.size 4 v56 (ce (q10_13 h1094) H1.size 5 v57 (ce (q10_13 h1094) H1.size 6 v58 (ce (q10_13 h1094) H1.size 7 v59 (ce (q10_13 h1094) H1.size 8 v60 (ce (q10_13 h1094) H1.size 9 v61 (ce (q10_13 h1094) h.size 0 v50 (ce (q10_13 h1094) h.size 1 v51 (ce (q10_13 h1094) H1.size 0 v40 (ce (q10_13 h1094) H1.size 1 v41 (ce (q10_13 h1094) H1.size 2 v42 (ce (q10_13 h1094) H1.size 3 v43 (ce (q10_13 h1094) H1.size 4 v44 (ce (q10_13 h1094) H1.size 5 v45 (ce (q10_13 h1094) H1.size 6 v46 (ce (q10_13 h1094) H1.size 7 v47 (ce (q10_13 h1094) H1.size 8 v48 (ce (q10_13 h1094) H1.size 9 v49 (ce (q10_13 h1094) h.size 0 v38 (ce (q10_13 h1094) h.size 1 v39 (cf 23 #[.agg #[v50, v51], .pointer o34, .agg #[v52, v53, v54, v55, v56, v57, v58, v59, v60, v61]] (q10_13 h1094) fun v1213 h1214 => asAgg v1213 fun vs1215 => sizeH vs1215 4 (elemH vs1215 0 fun v1216 => elemH vs1215 1 fun v1217 => elemH vs1215 2 fun v1218 => elemH vs1215 3 fun v1219 => stH h1214 ⟨h1094.size, 0, none⟩ v1096 fun h1220 => stH h1220 ⟨h1094.size, 1, none⟩ v1097 fun h1221 => stH h1221 ⟨h1094.size, 2, none⟩ v1098 fun h1222 => stH h1222 ⟨h1094.size, 3, none⟩ v1099 fun h1223 => stH h1223 ⟨h31.size, 0, none⟩ v1216 fun h1224 => stH h1224 ⟨h31.size, 1, none⟩ v1217 fun h1225 => stH h1225 ⟨h31.size, 2, none⟩ v1218 fun h1226 => stH h1226 ⟨h31.size, 3, none⟩ v1219 fun h1227 => blindTail K o15 o34 h1094.size h31.size h1227)))))))))))))))))))))))))))))))))))))))) ∧ (ce (q10_7 h31) H1.size 0 v52 (ce (q10_7 h31) H1.size 1 v53 (ce (q10_7 h31) H1.size 2 v54 (ce (q10_7 h31) H1.size 3 v55 (ce (q10_7 h31) H1.size 4 v56 (ce (q10_7 h31) H1.size 5 v57 (ce (q10_7 h31) H1.size 6 v58 (ce (q10_7 h31) H1.size 7 v59 (ce (q10_7 h31) H1.size 8 v60 (ce (q10_7 h31) H1.size 9 v61 (ce (q10_7 h31) h.size 0 v50 (ce (q10_7 h31) h.size 1 v51 (ce (q10_7 h31) H1.size 0 v40 (ce (q10_7 h31) H1.size 1 v41 (ce (q10_7 h31) H1.size 2 v42 (ce (q10_7 h31) H1.size 3 v43 (ce (q10_7 h31) H1.size 4 v44 (ce (q10_7 h31) H1.size 5 v45 (ce (q10_7 h31) H1.size 6 v46 (ce (q10_7 h31) H1.size 7 v47 (ce (q10_7 h31) H1.size 8 v48 (ce (q10_7 h31) H1.size 9 v49 (ce (q10_7 h31) h.size 0 v38 (ce (q10_7 h31) h.size 1 v39 (cf 23 #[.agg #[v38, v39], .pointer o15, .agg #[v40, v41, v42, v43, v44, v45, v46, v47, v48, v49]] (q10_7 h31) fun v1326 h1327 => asAgg v1326 fun vs1328 => sizeH vs1328 4 (elemH vs1328 0 fun v1329 => elemH vs1328 1 fun v1330 => elemH vs1328 2 fun v1331 => elemH vs1328 3 fun v1332 => ce h1327 H1.size 0 v52 (ce h1327 H1.size 1 v53 (ce h1327 H1.size 2 v54 (ce h1327 H1.size 3 v55 (ce h1327 H1.size 4 v56 (ce h1327 H1.size 5 v57 (ce h1327 H1.size 6 v58 (ce h1327 H1.size 7 v59 (ce h1327 H1.size 8 v60 (ce h1327 H1.size 9 v61 (ce h1327 h.size 0 v50 (ce h1327 h.size 1 v51 (cf 23 #[.agg #[v50, v51], .pointer o34, .agg #[v52, v53, v54, v55, v56, v57, v58, v59, v60, v61]] h1327 fun v1333 h1334 => asAgg v1333 fun vs1335 => sizeH vs1335 4 (elemH vs1335 0 fun v1336 => elemH vs1335 1 fun v1337 => elemH vs1335 2 fun v1338 => elemH vs1335 3 fun v1339 => stH h1334 ⟨(q10_3 h31).size, 0, none⟩ v1329 fun h1340 => stH h1340 ⟨(q10_3 h31).size, 1, none⟩ v1330 fun h1341 => stH h1341 ⟨(q10_3 h31).size, 2, none⟩ v1331 fun h1342 => stH h1342 ⟨(q10_3 h31).size, 3, none⟩ v1332 fun h1343 => stH h1343 ⟨h31.size, 0, none⟩ v1336 fun h1344 => stH h1344 ⟨h31.size, 1, none⟩ v1337 fun h1345 => stH h1345 ⟨h31.size, 2, none⟩ v1338 fun h1346 => stH h1346 ⟨h31.size, 3, none⟩ v1339 fun h1347 => blindTail K o15 o34 (q10_3 h31).size h31.size h1347)))))))))))))))))))))))))))))))))))))))))))))))))))))))))))))))))))
def F10 (K : Value → Heap → Prop) (h : Heap) (xa : Value) (xb xc xd xe xf xg xh xi : Int) (xj : Option Addr) (xk xl : Nat) (xm : Option Addr) (xn xo : Nat) (xp : Option Addr) (xq xr : Nat) : Prop :=
  (g10 K h (Array.push h (.cells #[xa, .int .i64 xb] 37)) (Array.push (Array.push h (.cells #[xa, .int .i64 xb] 37)) (.cells #[.int .i64 xc, .int .i64 xd, .int .i64 xe, .int .i64 xf, .int .i64 xg, .int .i64 xh, .int .i64 xi, .slice xj xk xl, .slice xm xn xo, .slice xp xq xr] 28)))
theorem call10 {K : Value → Heap → Prop} {h : Heap} {xa : Value} {xb xc xd xe xf xg xh xi : Int} {xj : Option Addr} {xk xl : Nat} {xm : Option Addr} {xn xo : Nat} {xp : Option Addr} {xq xr : Nat} (H : F10 K h xa xb xc xd xe xf xg xh xi xj xk xl xm xn xo xp xq xr) : CallH Tryz.prog 10 #[(.agg #[xa, (.int .i64 xb)]), (.agg #[(.int .i64 xc), (.int .i64 xd), (.int .i64 xe), (.int .i64 xf), (.int .i64 xg), (.int .i64 xh), (.int .i64 xi), (.slice xj xk xl), (.slice xm xn xo), (.slice xp xq xr)])] h K :=
  callH_mk Tryz.func10 (by kernel_rfl) (Eq.mp (by kernel_rfl) H)
abbrev g14 (K : Value → Heap → Prop) (h H1 H2 H3 : Heap) (xa xb : Int) : Prop :=
  (ldH H3 ⟨H1.size, 0, none⟩ fun v0 => ldH H3 ⟨H1.size, 1, none⟩ fun v1 => ldH H3 ⟨H1.size, 2, none⟩ fun v2 => ldH H3 ⟨H1.size, 3, none⟩ fun v3 => ldH H3 ⟨H1.size, 4, none⟩ fun v4 => ldH H3 ⟨H1.size, 5, none⟩ fun v5 => ldH H3 ⟨H1.size, 6, none⟩ fun v6 => stH (Array.push H3 (.cells #[.int .i64 0, .int .i64 0, .int .i64 0, .int .i64 0, .int .i64 0, .int .i64 0, .int .i64 0, .slice none 0 0, .slice none 0 0, .slice none 0 0] 28)) ⟨H3.size, 0, none⟩ v0 fun h7 => stH h7 ⟨H3.size, 1, none⟩ v1 fun h8 => stH h8 ⟨H3.size, 2, none⟩ v2 fun h9 => stH h9 ⟨H3.size, 3, none⟩ v3 fun h10 => stH h10 ⟨H3.size, 4, none⟩ v4 fun h11 => stH h11 ⟨H3.size, 5, none⟩ v5 fun h12 => stH h12 ⟨H3.size, 6, none⟩ v6 fun h13 => stH h13 ⟨H3.size, 7, none⟩ (.slice none 0 0) fun h14 => stH h14 ⟨H3.size, 8, none⟩ (.slice none 0 0) fun h15 => stH h15 ⟨H3.size, 9, none⟩ (.slice none 0 0) fun h16 => exI fun I17 => (lI .i64 h16 ⟨H1.size, 1, none⟩ fun n19 => ifB (decide (n19 < 1)) (I17 [.bool true] h16) (lI .i64 h16 ⟨H1.size, 1, none⟩ fun n21 => I17 [.bool (decide (n21 > 6))] h16)) ∧ (∀ (v22 : Value) (g23 : Env) (h24 : Heap), (I17 [v22] h24) → (asBool v22 fun b25 => ifB b25 (ldH h24 ⟨H3.size, 0, none⟩ fun v26 => ldH h24 ⟨H3.size, 1, none⟩ fun v27 => ldH h24 ⟨H3.size, 2, none⟩ fun v28 => ldH h24 ⟨H3.size, 3, none⟩ fun v29 => ldH h24 ⟨H3.size, 4, none⟩ fun v30 => ldH h24 ⟨H3.size, 5, none⟩ fun v31 => ldH h24 ⟨H3.size, 6, none⟩ fun v32 => ldH h24 ⟨H3.size, 7, none⟩ fun v33 => ldH h24 ⟨H3.size, 8, none⟩ fun v34 => ldH h24 ⟨H3.size, 9, none⟩ fun v35 => stH h24 ⟨H2.size, 0, none⟩ v26 fun h36 => stH h36 ⟨H2.size, 1, none⟩ v27 fun h37 => stH h37 ⟨H2.size, 2, none⟩ v28 fun h38 => stH h38 ⟨H2.size, 3, none⟩ v29 fun h39 => stH h39 ⟨H2.size, 4, none⟩ v30 fun h40 => stH h40 ⟨H2.size, 5, none⟩ v31 fun h41 => stH h41 ⟨H2.size, 6, none⟩ v32 fun h42 => stH h42 ⟨H2.size, 7, none⟩ v33 fun h43 => stH h43 ⟨H2.size, 8, none⟩ v34 fun h44 => stH h44 ⟨H2.size, 9, none⟩ v35 fun h45 => ldH h45 ⟨H2.size, 0, none⟩ fun v46 => ldH h45 ⟨H2.size, 1, none⟩ fun v47 => ldH h45 ⟨H2.size, 2, none⟩ fun v48 => ldH h45 ⟨H2.size, 3, none⟩ fun v49 => ldH h45 ⟨H2.size, 4, none⟩ fun v50 => ldH h45 ⟨H2.size, 5, none⟩ fun v51 => ldH h45 ⟨H2.size, 6, none⟩ fun v52 => ldH h45 ⟨H2.size, 7, none⟩ fun v53 => ldH h45 ⟨H2.size, 8, none⟩ fun v54 => ldH h45 ⟨H2.size, 9, none⟩ fun v55 => K (.agg #[v46, v47, v48, v49, v50, v51, v52, v53, v54, v55]) h45) (exI fun I56 => exM fun m57 => (I56 [.int .i64 0, .tuple #[], .tuple #[]] h24) ∧ (∀ (v58 v59 v60 : Value) (g61 : Env) (h62 : Heap), (I56 [v58, v59, v60] h62) → (asInt .i64 v58 fun n63 => lI .i64 h62 ⟨H1.size, 1, none⟩ fun n65 => ifB (decide (n63 < n65)) (exI fun I66 => exM fun m67 => (I66 [.slice none 0 0, .int .i64 0] h62) ∧ (∀ (v68 v69 : Value) (g70 : Env) (h71 : Heap), (I66 [v68, v69] h71) → (exI fun I72 => (asInt .i64 v58 fun n73 => lS h71 ⟨h.size, 7, none⟩ fun o75 k76 k77 => ifB (decide (n73 < (k76 : Int))) (asInt .i64 v69 fun n78 => lS h71 ⟨h.size, 7, none⟩ fun o80 k81 k82 => asInt .i64 v58 fun n83 => bd n83 (k81 : Int) (asPtr (.pointer o80) fun a84 => lS h71 (Addr.add a84 (n83.toNat * 1)) fun o86 k87 k88 => ifB (decide (n78 < (k87 : Int))) (asInt .i64 v69 fun n89 => I72 [.bool (decide (n78 < (k87 : Int))), .bool (decide (n89 < xa))] h71) (I72 [.bool (decide (n78 < (k87 : Int))), .bool false] h71))) (I72 [.bool false, .bool false] h71)) ∧ (∀ (v90 v91 : Value) (g92 : Env) (h93 : Heap), (I72 [v90, v91] h93) → (asBool v91 fun b94 => ifB b94 (lS h93 ⟨h.size, 7, none⟩ fun o96 k97 k98 => asInt .i64 v58 fun n99 => bd n99 (k97 : Int) (asPtr (.pointer o96) fun a100 => lS h93 (Addr.add a100 (n99.toNat * 1)) fun o102 k103 k104 => asInt .i64 v69 fun n105 => bd n105 (k103 : Int) (asPtr (.pointer o102) fun a106 => ldH h93 (Addr.add a106 (n105.toNat * 3)) fun v107 => ldH h93 (Addr.add (Addr.add a106 (n105.toNat * 3)) 1) fun v108 => ldH h93 (Addr.add (Addr.add a106 (n105.toNat * 3)) 2) fun v109 => stH (Array.push h93 (.cells #[.int .i64 0, .int .u32 0, .int .u32 0] 53)) ⟨h93.size, 0, none⟩ v107 fun h110 => stH h110 ⟨h93.size, 1, none⟩ v108 fun h111 => stH h111 ⟨h93.size, 2, none⟩ v109 fun h112 => lI .i64 h112 ⟨h93.size, 0, none⟩ fun n114 => ((3 : Int) ≠ 0) ∧ (((3 : Int) ≠ 0) ∧ (stH (Array.push h112 (.cells #[.int .i64 0, .int .u32 0, .int .u32 0] 53)) ⟨h112.size, 0, none⟩ (.int .i64 (Int.tmod (IntKind.wrap .i64 ((Int.tmod n114 3) + 3)) 3)) fun h115 => stH h115 ⟨h112.size, 1, none⟩ (.int .u32 0) fun h116 => stH h116 ⟨h112.size, 2, none⟩ (.int .u32 0) fun h117 => exI fun I118 => (lI .i64 h117 ⟨h112.size, 0, none⟩ fun n120 => ifB (n120 == 0) (lI .u32 h117 ⟨h93.size, 1, none⟩ fun n122 => stH h117 ⟨h112.size, 1, none⟩ (.int .u32 n122) fun h123 => lI .u32 h123 ⟨h93.size, 2, none⟩ fun n125 => stH h123 ⟨h112.size, 2, none⟩ (.int .u32 n125) fun h126 => I118 [] h126) (I118 [] h117)) ∧ (∀ (g127 : Env) (h128 : Heap), (I118 [] h128) → (asSlice v68 fun o129 k130 k131 => ldH h128 ⟨h112.size, 0, none⟩ fun v132 => ldH h128 ⟨h112.size, 1, none⟩ fun v133 => ldH h128 ⟨h112.size, 2, none⟩ fun v134 => appH Tryz.prog #[66, 66] 66 #[.slice o129 k130 k131, .slice (some ⟨h128.size, 0, none⟩) 1 1] (Array.push h128 (.cells #[v132, v133, v134] 53)) fun v135 h136 => asSlice v135 fun o137 k138 k139 => asInt .i64 v69 fun n140 => (I66 [.slice o137 k138 k139, .int .i64 (IntKind.wrap .i64 (n140 + 1))] h136) ∧ ((m67 [.slice o137 k138 k139, .int .i64 (IntKind.wrap .i64 (n140 + 1))] h136) < (m67 [v68, v69] h71))))))))) (lS h93 ⟨H3.size, 7, none⟩ fun o142 k143 k144 => asSlice v68 fun o145 k146 k147 => appH Tryz.prog #[24, 24] 24 #[.slice o142 k143 k144, .slice (some ⟨h93.size, 0, none⟩) 1 1] (Array.push h93 (.cells #[.slice o145 k146 k147] 66)) fun v148 h149 => asSlice v148 fun o150 k151 k152 => stH h149 ⟨H3.size, 7, none⟩ (.slice o150 k151 k152) fun h153 => asInt .i64 v58 fun n154 => (I56 [.int .i64 (IntKind.wrap .i64 (n154 + 1)), v68, v69] h153) ∧ ((m57 [.int .i64 (IntKind.wrap .i64 (n154 + 1)), v68, v69] h153) < (m57 [v58, v59, v60] h62)))))))) (exI fun I155 => exM fun m156 => (I155 [.int .i64 0] h62) ∧ (∀ (v157 : Value) (g158 : Env) (h159 : Heap), (I155 [v157] h159) → (exI fun I160 => (asInt .i64 v157 fun n161 => lS h159 ⟨h.size, 8, none⟩ fun o163 k164 k165 => ifB (decide (n161 < (k164 : Int))) (asInt .i64 v157 fun n166 => I160 [.bool (decide (n166 < xb))] h159) (I160 [.bool false] h159)) ∧ (∀ (v167 : Value) (g168 : Env) (h169 : Heap), (I160 [v167] h169) → (asBool v167 fun b170 => ifB b170 (ldH h169 ⟨H3.size, 8, none⟩ fun v171 => asSlice v171 fun o172 k173 k174 => lS h169 ⟨h.size, 8, none⟩ fun o176 k177 k178 => asInt .i64 v157 fun n179 => bd n179 (k177 : Int) (asPtr (.pointer o176) fun a180 => lI .i64 h169 (Addr.add a180 (n179.toNat * 1)) fun n182 => lI .i64 h169 ⟨H1.size, 1, none⟩ fun n184 => ((n184 : Int) ≠ 0) ∧ (lI .i64 h169 ⟨H1.size, 1, none⟩ fun n186 => lI .i64 h169 ⟨H1.size, 1, none⟩ fun n188 => ((n188 : Int) ≠ 0) ∧ (((cellAt (Array.push h169 (.cells #[.int .i64 (Int.tmod (IntKind.wrap .i64 ((Int.tmod n182 n184) + n186)) n188)] 3)) ⟨H3.size, 8, none⟩) = (some v171)) ∧ (appH Tryz.prog #[25, 25] 25 #[.slice o172 k173 k174, .slice (some ⟨h169.size, 0, none⟩) 1 1] (Array.push h169 (.cells #[.int .i64 (Int.tmod (IntKind.wrap .i64 ((Int.tmod n182 n184) + n186)) n188)] 3)) fun v189 h190 => asSlice v189 fun o191 k192 k193 => stH h190 ⟨H3.size, 8, none⟩ (.slice o191 k192 k193) fun h194 => asInt .i64 v157 fun n195 => (I155 [.int .i64 (IntKind.wrap .i64 (n195 + 1))] h194) ∧ ((m156 [.int .i64 (IntKind.wrap .i64 (n195 + 1))] h194) < (m156 [v157] h159))))))) (exI fun I196 => exM fun m197 => (I196 [.int .i64 0] h169) ∧ (∀ (v198 : Value) (g199 : Env) (h200 : Heap), (I196 [v198] h200) → (exI fun I201 => (asInt .i64 v198 fun n202 => lS h200 ⟨h.size, 9, none⟩ fun o204 k205 k206 => ifB (decide (n202 < (k205 : Int))) (asInt .i64 v198 fun n207 => I201 [.bool (decide (n207 < 4096))] h200) (I201 [.bool false] h200)) ∧ (∀ (v208 : Value) (g209 : Env) (h210 : Heap), (I201 [v208] h210) → (asBool v208 fun b211 => ifB b211 (ldH h210 ⟨H3.size, 9, none⟩ fun v212 => asSlice v212 fun o213 k214 k215 => lS h210 ⟨h.size, 9, none⟩ fun o217 k218 k219 => asInt .i64 v198 fun n220 => bd n220 (k218 : Int) (asPtr (.pointer o217) fun a221 => lI .u8 h210 (Addr.add a221 (n220.toNat * 1)) fun n223 => ((cellAt (Array.push h210 (.cells #[.int .u8 n223] 5)) ⟨H3.size, 9, none⟩) = (some v212)) ∧ (appH Tryz.prog #[26, 26] 26 #[.slice o213 k214 k215, .slice (some ⟨h210.size, 0, none⟩) 1 1] (Array.push h210 (.cells #[.int .u8 n223] 5)) fun v224 h225 => asSlice v224 fun o226 k227 k228 => stH h225 ⟨H3.size, 9, none⟩ (.slice o226 k227 k228) fun h229 => asInt .i64 v198 fun n230 => (I196 [.int .i64 (IntKind.wrap .i64 (n230 + 1))] h229) ∧ ((m197 [.int .i64 (IntKind.wrap .i64 (n230 + 1))] h229) < (m197 [v198] h200))))) (ldH h210 ⟨H3.size, 0, none⟩ fun v231 => ldH h210 ⟨H3.size, 1, none⟩ fun v232 => ldH h210 ⟨H3.size, 2, none⟩ fun v233 => ldH h210 ⟨H3.size, 3, none⟩ fun v234 => ldH h210 ⟨H3.size, 4, none⟩ fun v235 => ldH h210 ⟨H3.size, 5, none⟩ fun v236 => ldH h210 ⟨H3.size, 6, none⟩ fun v237 => ldH h210 ⟨H3.size, 7, none⟩ fun v238 => ldH h210 ⟨H3.size, 8, none⟩ fun v239 => ldH h210 ⟨H3.size, 9, none⟩ fun v240 => stH h210 ⟨H2.size, 0, none⟩ v231 fun h241 => stH h241 ⟨H2.size, 1, none⟩ v232 fun h242 => stH h242 ⟨H2.size, 2, none⟩ v233 fun h243 => stH h243 ⟨H2.size, 3, none⟩ v234 fun h244 => stH h244 ⟨H2.size, 4, none⟩ v235 fun h245 => stH h245 ⟨H2.size, 5, none⟩ v236 fun h246 => stH h246 ⟨H2.size, 6, none⟩ v237 fun h247 => stH h247 ⟨H2.size, 7, none⟩ v238 fun h248 => stH h248 ⟨H2.size, 8, none⟩ v239 fun h249 => stH h249 ⟨H2.size, 9, none⟩ v240 fun h250 => ldH h250 ⟨H2.size, 0, none⟩ fun v251 => ldH h250 ⟨H2.size, 1, none⟩ fun v252 => ldH h250 ⟨H2.size, 2, none⟩ fun v253 => ldH h250 ⟨H2.size, 3, none⟩ fun v254 => ldH h250 ⟨H2.size, 4, none⟩ fun v255 => ldH h250 ⟨H2.size, 5, none⟩ fun v256 => ldH h250 ⟨H2.size, 6, none⟩ fun v257 => ldH h250 ⟨H2.size, 7, none⟩ fun v258 => ldH h250 ⟨H2.size, 8, none⟩ fun v259 => ldH h250 ⟨H2.size, 9, none⟩ fun v260 => K (.agg #[v251, v252, v253, v254, v255, v256, v257, v258, v259, v260]) h250)))))))))))))))))
def F14 (K : Value → Heap → Prop) (h : Heap) (xa xb xc xd xe xf xg : Int) (xh : Option Addr) (xi xj : Nat) (xk : Option Addr) (xl xm : Nat) (xn : Option Addr) (xo xp : Nat) (xq xr xs xt xu xv xw xx xy : Int) : Prop :=
  (g14 K h (Array.push h (.cells #[.int .i64 xa, .int .i64 xb, .int .i64 xc, .int .i64 xd, .int .i64 xe, .int .i64 xf, .int .i64 xg, .slice xh xi xj, .slice xk xl xm, .slice xn xo xp] 28)) (Array.push (Array.push h (.cells #[.int .i64 xa, .int .i64 xb, .int .i64 xc, .int .i64 xd, .int .i64 xe, .int .i64 xf, .int .i64 xg, .slice xh xi xj, .slice xk xl xm, .slice xn xo xp] 28)) (.cells #[.int .i64 xq, .int .i64 xr, .int .i64 xs, .int .i64 xt, .int .i64 xu, .int .i64 xv, .int .i64 xw] 23)) (Array.push (Array.push (Array.push h (.cells #[.int .i64 xa, .int .i64 xb, .int .i64 xc, .int .i64 xd, .int .i64 xe, .int .i64 xf, .int .i64 xg, .slice xh xi xj, .slice xk xl xm, .slice xn xo xp] 28)) (.cells #[.int .i64 xq, .int .i64 xr, .int .i64 xs, .int .i64 xt, .int .i64 xu, .int .i64 xv, .int .i64 xw] 23)) (.cells #[.int .i64 0, .int .i64 0, .int .i64 0, .int .i64 0, .int .i64 0, .int .i64 0, .int .i64 0, .slice none 0 0, .slice none 0 0, .slice none 0 0] 28)) xx xy)
theorem call14 {K : Value → Heap → Prop} {h : Heap} {xa xb xc xd xe xf xg : Int} {xh : Option Addr} {xi xj : Nat} {xk : Option Addr} {xl xm : Nat} {xn : Option Addr} {xo xp : Nat} {xq xr xs xt xu xv xw xx xy : Int} (H : F14 K h xa xb xc xd xe xf xg xh xi xj xk xl xm xn xo xp xq xr xs xt xu xv xw xx xy) : CallH Tryz.prog 14 #[(.agg #[(.int .i64 xa), (.int .i64 xb), (.int .i64 xc), (.int .i64 xd), (.int .i64 xe), (.int .i64 xf), (.int .i64 xg), (.slice xh xi xj), (.slice xk xl xm), (.slice xn xo xp)]), (.agg #[(.int .i64 xq), (.int .i64 xr), (.int .i64 xs), (.int .i64 xt), (.int .i64 xu), (.int .i64 xv), (.int .i64 xw)]), (.int .i64 xx), (.int .i64 xy)] h K :=
  callH_mk Tryz.func14 (by kernel_rfl) (Eq.mp (by kernel_rfl) H)
def F15 (K : Value → Heap → Prop) (h : Heap) (xa xb xc xd xe xf xg : Int) : Prop :=
  (stH (Array.push h (.cells #[.int .i64 xa, .int .i64 xb, .int .i64 xc, .int .i64 xd, .int .i64 xe, .int .i64 xf, .int .i64 xg] 23)) ⟨h.size, 0, none⟩ (.int .i64 2) fun h0 => ldH h0 ⟨h.size, 0, none⟩ fun v1 => ldH h0 ⟨h.size, 1, none⟩ fun v2 => ldH h0 ⟨h.size, 2, none⟩ fun v3 => ldH h0 ⟨h.size, 3, none⟩ fun v4 => ldH h0 ⟨h.size, 4, none⟩ fun v5 => ldH h0 ⟨h.size, 5, none⟩ fun v6 => ldH h0 ⟨h.size, 6, none⟩ fun v7 => cf 19 #[.agg #[v1, v2, v3, v4, v5, v6, v7]] h0 fun v8 h9 => asBool v8 fun b10 => K (.bool b10) h9)
theorem call15 {K : Value → Heap → Prop} {h : Heap} {xa xb xc xd xe xf xg : Int} (H : F15 K h xa xb xc xd xe xf xg) : CallH Tryz.prog 15 #[(.agg #[(.int .i64 xa), (.int .i64 xb), (.int .i64 xc), (.int .i64 xd), (.int .i64 xe), (.int .i64 xf), (.int .i64 xg)])] h K :=
  callH_mk Tryz.func15 (by kernel_rfl) (Eq.mp (by kernel_rfl) H)
def F16 (K : Value → Heap → Prop) (h : Heap)  : Prop :=
  (cf 20 #[.agg #[.int .i64 2, .int .i64 1, .int .i64 6, .int .i64 3, .int .i64 1, .int .i64 1, .int .i64 1], .slice none 0 0, .bool true] h fun v0 h1 => asTup v0 fun vs2 => elemH vs2 0 fun v3 => asPtrO v3 fun o4 => asTup v0 fun vs5 => elemH vs5 1 fun v6 => asInt .i64 v6 fun n7 => ifB (Option.isNone o4) (K (.bool false) h1) (cf 18 #[] h1 fun v8 h9 => asAgg v8 fun vs10 => sizeH vs10 2 (elemH vs10 0 fun v11 => elemH vs10 1 fun v12 => stH (Array.push h9 (.cells #[.nilFunc, .int .i64 0] 37)) ⟨h9.size, 0, none⟩ v11 fun h13 => stH h13 ⟨h9.size, 1, none⟩ v12 fun h14 => ldH h14 ⟨h9.size, 0, none⟩ fun v15 => ldH h14 ⟨h9.size, 1, none⟩ fun v16 => cf 21 #[.agg #[v15, v16], .pointer o4, .int .i64 0, .agg #[.int .i64 0, .int .u32 5, .int .u32 1]] h14 fun v17 h18 => asTup v17 fun vs19 => elemH vs19 0 fun v20 => asAgg v20 fun vs21 => sizeH vs21 3 (elemH vs21 0 fun v22 => elemH vs21 1 fun v23 => elemH vs21 2 fun v24 => asTup v17 fun vs25 => elemH vs25 1 fun v26 => asBool v26 fun b27 => stH (Array.push h18 (.cells #[.int .i64 0, .int .u32 0, .int .u32 0] 49)) ⟨h18.size, 0, none⟩ v22 fun h28 => stH h28 ⟨h18.size, 1, none⟩ v23 fun h29 => stH h29 ⟨h18.size, 2, none⟩ v24 fun h30 => ldH h30 ⟨h9.size, 0, none⟩ fun v31 => ldH h30 ⟨h9.size, 1, none⟩ fun v32 => cf 21 #[.agg #[v31, v32], .pointer o4, .int .i64 0, .agg #[.int .i64 0, .int .u32 3, .int .u32 2]] h30 fun v33 h34 => asTup v33 fun vs35 => elemH vs35 0 fun v36 => asAgg v36 fun vs37 => sizeH vs37 3 (elemH vs37 0 fun v38 => elemH vs37 1 fun v39 => elemH vs37 2 fun v40 => asTup v33 fun vs41 => elemH vs41 1 fun v42 => asBool v42 fun b43 => stH (Array.push h34 (.cells #[.int .i64 0, .int .u32 0, .int .u32 0] 49)) ⟨h34.size, 0, none⟩ v38 fun h44 => stH h44 ⟨h34.size, 1, none⟩ v39 fun h45 => stH h45 ⟨h34.size, 2, none⟩ v40 fun h46 => ldH h46 ⟨h9.size, 0, none⟩ fun v47 => ldH h46 ⟨h9.size, 1, none⟩ fun v48 => cf 21 #[.agg #[v47, v48], .pointer o4, .int .i64 0, .agg #[.int .i64 1, .int .u32 0, .int .u32 0]] h46 fun v49 h50 => asTup v49 fun vs51 => elemH vs51 0 fun v52 => asAgg v52 fun vs53 => sizeH vs53 3 (elemH vs53 0 fun v54 => elemH vs53 1 fun v55 => elemH vs53 2 fun v56 => asTup v49 fun vs57 => elemH vs57 1 fun v58 => asBool v58 fun b59 => stH (Array.push h50 (.cells #[.int .i64 0, .int .u32 0, .int .u32 0] 49)) ⟨h50.size, 0, none⟩ v54 fun h60 => stH h60 ⟨h50.size, 1, none⟩ v55 fun h61 => stH h61 ⟨h50.size, 2, none⟩ v56 fun h62 => lI .i64 h62 ⟨h18.size, 0, none⟩ fun n64 => ifB (n64 == 0) (lI .i64 h62 ⟨h34.size, 0, none⟩ fun n66 => ifB (n66 == 0) (ifB b59 (ldH h62 ⟨h50.size, 0, none⟩ fun v67 => ldH h62 ⟨h50.size, 1, none⟩ fun v68 => ldH h62 ⟨h50.size, 2, none⟩ fun v69 => eqvH Tryz.prog 49 (.agg #[v67, v68, v69]) (.agg #[.int .i64 2, .int .u32 3, .int .u32 2]) fun b70 => K (.bool b70) h62) (K (.bool false) h62)) (K (.bool false) h62)) (K (.bool false) h62)))))))
theorem call16 {K : Value → Heap → Prop} {h : Heap}  (H : F16 K h ) : CallH Tryz.prog 16 #[] h K :=
  callH_mk Tryz.func16 (by kernel_rfl) (Eq.mp (by kernel_rfl) H)
abbrev q17_1 : Obj := (.cells #[(.int .i64 0), (.int .i64 0), (.int .i64 0), (.int .i64 0), (.int .i64 0), (.int .i64 0), (.int .i64 0), (.slice none 0 0), (.slice none 0 0), (.slice none 0 0)] 28)
abbrev g17 (K : Value → Heap → Prop) (h H1 H2 : Heap) (xa xb : Int) : Prop :=
  (stH (Array.push H2 q17_1) ⟨H1.size, 0, none⟩ (.int .i64 2) fun h0 => ldH h0 ⟨H1.size, 0, none⟩ fun v1 => ldH h0 ⟨H1.size, 1, none⟩ fun v2 => ldH h0 ⟨H1.size, 2, none⟩ fun v3 => ldH h0 ⟨H1.size, 3, none⟩ fun v4 => ldH h0 ⟨H1.size, 4, none⟩ fun v5 => ldH h0 ⟨H1.size, 5, none⟩ fun v6 => ldH h0 ⟨H1.size, 6, none⟩ fun v7 => cf 19 #[.agg #[v1, v2, v3, v4, v5, v6, v7]] h0 fun v8 h9 => asBool v8 fun b10 => ifB (!b10) (ldH h9 ⟨h.size, 0, none⟩ fun v11 => ldH h9 ⟨h.size, 1, none⟩ fun v12 => ldH h9 ⟨h.size, 2, none⟩ fun v13 => ldH h9 ⟨h.size, 3, none⟩ fun v14 => ldH h9 ⟨h.size, 4, none⟩ fun v15 => ldH h9 ⟨h.size, 5, none⟩ fun v16 => ldH h9 ⟨h.size, 6, none⟩ fun v17 => ldH h9 ⟨h.size, 7, none⟩ fun v18 => ldH h9 ⟨h.size, 8, none⟩ fun v19 => ldH h9 ⟨h.size, 9, none⟩ fun v20 => stH h9 ⟨H2.size, 0, none⟩ v11 fun h21 => stH h21 ⟨H2.size, 1, none⟩ v12 fun h22 => stH h22 ⟨H2.size, 2, none⟩ v13 fun h23 => stH h23 ⟨H2.size, 3, none⟩ v14 fun h24 => stH h24 ⟨H2.size, 4, none⟩ v15 fun h25 => stH h25 ⟨H2.size, 5, none⟩ v16 fun h26 => stH h26 ⟨H2.size, 6, none⟩ v17 fun h27 => stH h27 ⟨H2.size, 7, none⟩ v18 fun h28 => stH h28 ⟨H2.size, 8, none⟩ v19 fun h29 => stH h29 ⟨H2.size, 9, none⟩ v20 fun h30 => ldH h30 ⟨H2.size, 0, none⟩ fun v31 => ldH h30 ⟨H2.size, 1, none⟩ fun v32 => ldH h30 ⟨H2.size, 2, none⟩ fun v33 => ldH h30 ⟨H2.size, 3, none⟩ fun v34 => ldH h30 ⟨H2.size, 4, none⟩ fun v35 => ldH h30 ⟨H2.size, 5, none⟩ fun v36 => ldH h30 ⟨H2.size, 6, none⟩ fun v37 => ldH h30 ⟨H2.size, 7, none⟩ fun v38 => ldH h30 ⟨H2.size, 8, none⟩ fun v39 => ldH h30 ⟨H2.size, 9, none⟩ fun v40 => K (.tuple #[.pointer none, .agg #[v31, v32, v33, v34, v35, v36, v37, v38, v39, v40]]) h30) (ldH h9 ⟨h.size, 0, none⟩ fun v41 => ldH h9 ⟨h.size, 1, none⟩ fun v42 => ldH h9 ⟨h.size, 2, none⟩ fun v43 => ldH h9 ⟨h.size, 3, none⟩ fun v44 => ldH h9 ⟨h.size, 4, none⟩ fun v45 => ldH h9 ⟨h.size, 5, none⟩ fun v46 => ldH h9 ⟨h.size, 6, none⟩ fun v47 => ldH h9 ⟨h.size, 7, none⟩ fun v48 => ldH h9 ⟨h.size, 8, none⟩ fun v49 => ldH h9 ⟨h.size, 9, none⟩ fun v50 => ldH h9 ⟨H1.size, 0, none⟩ fun v51 => ldH h9 ⟨H1.size, 1, none⟩ fun v52 => ldH h9 ⟨H1.size, 2, none⟩ fun v53 => ldH h9 ⟨H1.size, 3, none⟩ fun v54 => ldH h9 ⟨H1.size, 4, none⟩ fun v55 => ldH h9 ⟨H1.size, 5, none⟩ fun v56 => ldH h9 ⟨H1.size, 6, none⟩ fun v57 => cf 14 #[.agg #[v41, v42, v43, v44, v45, v46, v47, v48, v49, v50], .agg #[v51, v52, v53, v54, v55, v56, v57], .int .i64 xa, .int .i64 xb] h9 fun v58 h59 => asAgg v58 fun vs60 => sizeH vs60 10 (elemH vs60 0 fun v61 => elemH vs60 1 fun v62 => elemH vs60 2 fun v63 => elemH vs60 3 fun v64 => elemH vs60 4 fun v65 => elemH vs60 5 fun v66 => elemH vs60 6 fun v67 => elemH vs60 7 fun v68 => elemH vs60 8 fun v69 => elemH vs60 9 fun v70 => stH (Array.push h59 q17_1) ⟨h59.size, 0, none⟩ v61 fun h71 => stH h71 ⟨h59.size, 1, none⟩ v62 fun h72 => stH h72 ⟨h59.size, 2, none⟩ v63 fun h73 => stH h73 ⟨h59.size, 3, none⟩ v64 fun h74 => stH h74 ⟨h59.size, 4, none⟩ v65 fun h75 => stH h75 ⟨h59.size, 5, none⟩ v66 fun h76 => stH h76 ⟨h59.size, 6, none⟩ v67 fun h77 => stH h77 ⟨h59.size, 7, none⟩ v68 fun h78 => stH h78 ⟨h59.size, 8, none⟩ v69 fun h79 => stH h79 ⟨h59.size, 9, none⟩ v70 fun h80 => ldH h80 ⟨H1.size, 0, none⟩ fun v81 => ldH h80 ⟨H1.size, 1, none⟩ fun v82 => ldH h80 ⟨H1.size, 2, none⟩ fun v83 => ldH h80 ⟨H1.size, 3, none⟩ fun v84 => ldH h80 ⟨H1.size, 4, none⟩ fun v85 => ldH h80 ⟨H1.size, 5, none⟩ fun v86 => ldH h80 ⟨H1.size, 6, none⟩ fun v87 => lS h80 ⟨h59.size, 9, none⟩ fun o89 k90 k91 => cf 20 #[.agg #[v81, v82, v83, v84, v85, v86, v87], .slice o89 k90 k91, .bool true] h80 fun v92 h93 => asTup v92 fun vs94 => elemH vs94 0 fun v95 => asPtrO v95 fun o96 => asTup v92 fun vs97 => elemH vs97 1 fun v98 => asInt .i64 v98 fun n99 => ldH h93 ⟨h59.size, 0, none⟩ fun v100 => ldH h93 ⟨h59.size, 1, none⟩ fun v101 => ldH h93 ⟨h59.size, 2, none⟩ fun v102 => ldH h93 ⟨h59.size, 3, none⟩ fun v103 => ldH h93 ⟨h59.size, 4, none⟩ fun v104 => ldH h93 ⟨h59.size, 5, none⟩ fun v105 => ldH h93 ⟨h59.size, 6, none⟩ fun v106 => ldH h93 ⟨h59.size, 7, none⟩ fun v107 => ldH h93 ⟨h59.size, 8, none⟩ fun v108 => ldH h93 ⟨h59.size, 9, none⟩ fun v109 => stH h93 ⟨H2.size, 0, none⟩ v100 fun h110 => stH h110 ⟨H2.size, 1, none⟩ v101 fun h111 => stH h111 ⟨H2.size, 2, none⟩ v102 fun h112 => stH h112 ⟨H2.size, 3, none⟩ v103 fun h113 => stH h113 ⟨H2.size, 4, none⟩ v104 fun h114 => stH h114 ⟨H2.size, 5, none⟩ v105 fun h115 => stH h115 ⟨H2.size, 6, none⟩ v106 fun h116 => stH h116 ⟨H2.size, 7, none⟩ v107 fun h117 => stH h117 ⟨H2.size, 8, none⟩ v108 fun h118 => stH h118 ⟨H2.size, 9, none⟩ v109 fun h119 => ldH h119 ⟨H2.size, 0, none⟩ fun v120 => ldH h119 ⟨H2.size, 1, none⟩ fun v121 => ldH h119 ⟨H2.size, 2, none⟩ fun v122 => ldH h119 ⟨H2.size, 3, none⟩ fun v123 => ldH h119 ⟨H2.size, 4, none⟩ fun v124 => ldH h119 ⟨H2.size, 5, none⟩ fun v125 => ldH h119 ⟨H2.size, 6, none⟩ fun v126 => ldH h119 ⟨H2.size, 7, none⟩ fun v127 => ldH h119 ⟨H2.size, 8, none⟩ fun v128 => ldH h119 ⟨H2.size, 9, none⟩ fun v129 => K (.tuple #[.pointer o96, .agg #[v120, v121, v122, v123, v124, v125, v126, v127, v128, v129]]) h119)))
def F17 (K : Value → Heap → Prop) (h : Heap) (xa xb xc xd xe xf xg : Int) (xh : Option Addr) (xi xj : Nat) (xk : Option Addr) (xl xm : Nat) (xn : Option Addr) (xo xp : Nat) (xq xr xs xt xu xv xw xx xy : Int) : Prop :=
  (g17 K h (Array.push h (.cells #[.int .i64 xa, .int .i64 xb, .int .i64 xc, .int .i64 xd, .int .i64 xe, .int .i64 xf, .int .i64 xg, .slice xh xi xj, .slice xk xl xm, .slice xn xo xp] 28)) (Array.push (Array.push h (.cells #[.int .i64 xa, .int .i64 xb, .int .i64 xc, .int .i64 xd, .int .i64 xe, .int .i64 xf, .int .i64 xg, .slice xh xi xj, .slice xk xl xm, .slice xn xo xp] 28)) (.cells #[.int .i64 xq, .int .i64 xr, .int .i64 xs, .int .i64 xt, .int .i64 xu, .int .i64 xv, .int .i64 xw] 23)) xx xy)
theorem call17 {K : Value → Heap → Prop} {h : Heap} {xa xb xc xd xe xf xg : Int} {xh : Option Addr} {xi xj : Nat} {xk : Option Addr} {xl xm : Nat} {xn : Option Addr} {xo xp : Nat} {xq xr xs xt xu xv xw xx xy : Int} (H : F17 K h xa xb xc xd xe xf xg xh xi xj xk xl xm xn xo xp xq xr xs xt xu xv xw xx xy) : CallH Tryz.prog 17 #[(.agg #[(.int .i64 xa), (.int .i64 xb), (.int .i64 xc), (.int .i64 xd), (.int .i64 xe), (.int .i64 xf), (.int .i64 xg), (.slice xh xi xj), (.slice xk xl xm), (.slice xn xo xp)]), (.agg #[(.int .i64 xq), (.int .i64 xr), (.int .i64 xs), (.int .i64 xt), (.int .i64 xu), (.int .i64 xv), (.int .i64 xw)]), (.int .i64 xx), (.int .i64 xy)] h K :=
  callH_mk Tryz.func17 (by kernel_rfl) (Eq.mp (by kernel_rfl) H)
def F18 (K : Value → Heap → Prop) (h : Heap)  : Prop :=
  (stH (Array.push h (.cells #[.nilFunc, .int .i64 0] 37)) ⟨h.size, 0, none⟩ (.func (.func 28) #[] #[]) fun h0 => stH h0 ⟨h.size, 1, none⟩ (.int .i64 31) fun h1 => ldH h1 ⟨h.size, 0, none⟩ fun v2 => ldH h1 ⟨h.size, 1, none⟩ fun v3 => K (.agg #[v2, v3]) h1)
theorem call18 {K : Value → Heap → Prop} {h : Heap}  (H : F18 K h ) : CallH Tryz.prog 18 #[] h K :=
  callH_mk Tryz.func18 (by kernel_rfl) (Eq.mp (by kernel_rfl) H)
abbrev g21 (K : Value → Heap → Prop) (h H1 H2 : Heap) (xa : Option Addr) (xb : Int) : Prop :=
  (cf 37 #[.pointer xa, .int .i64 xb] (Array.push H2 (.cells #[.int .i64 0, .int .u32 0, .int .u32 0] 49)) fun v0 h1 => asPtrO v0 fun o2 => ifB (Option.isNone o2) (stH h1 ⟨H2.size, 0, none⟩ (.int .i64 0) fun h3 => stH h3 ⟨H2.size, 1, none⟩ (.int .u32 0) fun h4 => stH h4 ⟨H2.size, 2, none⟩ (.int .u32 0) fun h5 => ldH h5 ⟨H2.size, 0, none⟩ fun v6 => ldH h5 ⟨H2.size, 1, none⟩ fun v7 => ldH h5 ⟨H2.size, 2, none⟩ fun v8 => K (.tuple #[.agg #[v6, v7, v8], .bool false]) h5) (lI .i64 h1 ⟨h.size, 1, none⟩ fun n10 => lI .i64 h1 ⟨H1.size, 0, none⟩ fun n12 => lI .u32 h1 ⟨H1.size, 1, none⟩ fun n14 => lI .u32 h1 ⟨H1.size, 2, none⟩ fun n16 => cf 38 #[.pointer o2, .int .i64 (IntKind.wrap .i64 (n10 + n12)), .slice (some ⟨h1.size, 0, none⟩) 2 2] (Array.push h1 (.cells #[.int .u64 (IntKind.wrap .u64 n14), .int .u64 (IntKind.wrap .u64 n16)] 65)) fun v17 h18 => exI fun I19 => exM fun m20 => (I19 [.bool false, .int .i64 0] h18) ∧ (∀ (v21 v22 : Value) (g23 : Env) (h24 : Heap), (I19 [v21, v22] h24) → (exI fun I25 => (asInt .i64 v22 fun n26 => ifB (decide (n26 < 100000)) (cf 39 #[.pointer xa] h24 fun v27 h28 => asBool v27 fun b29 => I25 [.bool (!b29)] h28) (I25 [.bool false] h24)) ∧ (∀ (v30 : Value) (g31 : Env) (h32 : Heap), (I25 [v30] h32) → (asBool v30 fun b33 => ifB b33 (ldH h32 ⟨h.size, 0, none⟩ fun v34 => cf 40 #[.pointer xa, .int .i64 xb, v34] h32 fun v35 h36 => asBool v35 fun b37 => ifB (!b37) (cf 41 #[.pointer o2] h36 fun v38 h39 => asAgg v38 fun vs40 => sizeH vs40 3 (elemH vs40 0 fun v41 => elemH vs40 1 fun v42 => elemH vs40 2 fun v43 => stH h39 ⟨H2.size, 0, none⟩ v41 fun h44 => stH h44 ⟨H2.size, 1, none⟩ v42 fun h45 => stH h45 ⟨H2.size, 2, none⟩ v43 fun h46 => ldH h46 ⟨H2.size, 0, none⟩ fun v47 => ldH h46 ⟨H2.size, 1, none⟩ fun v48 => ldH h46 ⟨H2.size, 2, none⟩ fun v49 => K (.tuple #[.agg #[v47, v48, v49], .bool true]) h46)) (asInt .i64 v22 fun n50 => (I19 [v21, .int .i64 (IntKind.wrap .i64 (n50 + 1))] h36) ∧ ((m20 [v21, .int .i64 (IntKind.wrap .i64 (n50 + 1))] h36) < (m20 [v21, v22] h24)))) (stH h32 ⟨H2.size, 0, none⟩ (.int .i64 0) fun h51 => stH h51 ⟨H2.size, 1, none⟩ (.int .u32 0) fun h52 => stH h52 ⟨H2.size, 2, none⟩ (.int .u32 0) fun h53 => ldH h53 ⟨H2.size, 0, none⟩ fun v54 => ldH h53 ⟨H2.size, 1, none⟩ fun v55 => ldH h53 ⟨H2.size, 2, none⟩ fun v56 => K (.tuple #[.agg #[v54, v55, v56], .bool false]) h53)))))))
def F21 (K : Value → Heap → Prop) (h : Heap) (xa : Value) (xb : Int) (xc : Option Addr) (xd xe xf xg : Int) : Prop :=
  (g21 K h (Array.push h (.cells #[xa, .int .i64 xb] 37)) (Array.push (Array.push h (.cells #[xa, .int .i64 xb] 37)) (.cells #[.int .i64 xe, .int .u32 xf, .int .u32 xg] 53)) xc xd)
theorem call21 {K : Value → Heap → Prop} {h : Heap} {xa : Value} {xb : Int} {xc : Option Addr} {xd xe xf xg : Int} (H : F21 K h xa xb xc xd xe xf xg) : CallH Tryz.prog 21 #[(.agg #[xa, (.int .i64 xb)]), (.pointer xc), (.int .i64 xd), (.agg #[(.int .i64 xe), (.int .u32 xf), (.int .u32 xg)])] h K :=
  callH_mk Tryz.func21 (by kernel_rfl) (Eq.mp (by kernel_rfl) H)
abbrev q23_1 (h67 : Heap) : Heap := (Array.push h67 (.cells #[(.int .i64 0), (.int .u32 0), (.int .u32 0)] 53))
abbrev g23 (K : Value → Heap → Prop) (h H1 H2 H3 H4 : Heap) (xa : Option Addr) : Prop :=
  (lS H4 ⟨H1.size, 7, none⟩ fun o1 k2 k3 => mkSlH Tryz.prog 3 (k2 : Int) (k2 : Int) H4 fun v4 h5 => asSlice v4 fun o6 k7 k8 => mkSlH Tryz.prog 4 (k2 : Int) (k2 : Int) h5 fun v9 h10 => asSlice v9 fun o11 k12 k13 => mkSlH Tryz.prog 53 (k2 : Int) (k2 : Int) h10 fun v14 h15 => asSlice v14 fun o16 k17 k18 => exI fun I19 => exM fun m20 => (I19 [.int .i64 0, .tuple #[], .tuple #[], .tuple #[], .tuple #[], .tuple #[]] h15) ∧ (∀ (v21 v22 v23 v24 v25 v26 : Value) (g27 : Env) (h28 : Heap), (I19 [v21, v22, v23, v24, v25, v26] h28) → (asInt .i64 v21 fun n29 => lS h28 ⟨H1.size, 8, none⟩ fun o31 k32 k33 => ifB (decide (n29 < (k32 : Int))) (exI fun I34 => (lS h28 ⟨H1.size, 8, none⟩ fun o36 k37 k38 => asInt .i64 v21 fun n39 => bd n39 (k37 : Int) (asPtr (.pointer o36) fun a40 => lI .i64 h28 (Addr.add a40 (n39.toNat * 1)) fun n42 => cf 37 #[.pointer xa, .int .i64 n42] h28 fun v43 h44 => asPtrO v43 fun o45 => exI fun I46 => (ifB (decide (n42 < 0)) (I46 [.bool true, .bool true] h44) (ifB (decide (n42 ≥ (k2 : Int))) (I46 [.bool (decide (n42 ≥ (k2 : Int))), .bool true] h44) (I46 [.bool (decide (n42 ≥ (k2 : Int))), .bool (Option.isNone o45)] h44))) ∧ (∀ (v47 v48 : Value) (g49 : Env) (h50 : Heap), (I46 [v47, v48] h50) → (asBool v48 fun b51 => ifB b51 (stH h50 ⟨H3.size, 1, none⟩ (.bool true) fun h52 => ldH h52 ⟨H3.size, 0, none⟩ fun v53 => ldH h52 ⟨H3.size, 1, none⟩ fun v54 => ldH h52 ⟨H3.size, 2, none⟩ fun v55 => ldH h52 ⟨H3.size, 3, none⟩ fun v56 => stH h52 ⟨H2.size, 0, none⟩ v53 fun h57 => stH h57 ⟨H2.size, 1, none⟩ v54 fun h58 => stH h58 ⟨H2.size, 2, none⟩ v55 fun h59 => stH h59 ⟨H2.size, 3, none⟩ v56 fun h60 => ldH h60 ⟨H2.size, 0, none⟩ fun v61 => ldH h60 ⟨H2.size, 1, none⟩ fun v62 => ldH h60 ⟨H2.size, 2, none⟩ fun v63 => ldH h60 ⟨H2.size, 3, none⟩ fun v64 => K (.agg #[v61, v62, v63, v64]) h60) (exI fun I65 => (cf 42 #[.pointer o45] h50 fun v66 h67 => asPtrO v66 fun o68 => ifB (Option.isNone o68) (bd n42 (k7 : Int) (asPtr (.pointer o6) fun a69 => lI .i64 h67 (Addr.add a69 (n42.toNat * 1)) fun n71 => lS h67 ⟨H1.size, 7, none⟩ fun o73 k74 k75 => bd n42 (k74 : Int) (asPtr (.pointer o73) fun a76 => lS h67 (Addr.add a76 (n42.toNat * 1)) fun o78 k79 k80 => ifB (decide (n71 ≥ (k79 : Int))) (I34 [.int .i64 n42, .pointer o45, v24, v25, v26] h67) (ldH h67 ⟨H1.size, 7, none⟩ fun v81 => asSlice v81 fun o82 k83 k84 => bd n42 (k83 : Int) (asPtr (.pointer o82) fun a85 => ldH h67 (Addr.add a85 (n42.toNat * 1)) fun v86 => asSlice v86 fun o87 k88 k89 => bd n42 (k7 : Int) (asPtr (.pointer o6) fun a90 => ldH h67 (Addr.add a90 (n42.toNat * 1)) fun v91 => asInt .i64 v91 fun n92 => bd n92 (k88 : Int) (asPtr (.pointer o87) fun a93 => ldH h67 (Addr.add a93 (n92.toNat * 3)) fun v94 => ldH h67 (Addr.add (Addr.add a93 (n92.toNat * 3)) 1) fun v95 => ldH h67 (Addr.add (Addr.add a93 (n92.toNat * 3)) 2) fun v96 => ((cellAt (q23_1 h67) (Addr.add a93 (n92.toNat * 3))) = (some v94)) ∧ (((cellAt (q23_1 h67) (Addr.add (Addr.add a93 (n92.toNat * 3)) 1)) = (some v95)) ∧ (((cellAt (q23_1 h67) (Addr.add (Addr.add a93 (n92.toNat * 3)) 2)) = (some v96)) ∧ (((cellAt (q23_1 h67) (Addr.add a90 (n42.toNat * 1))) = (some v91)) ∧ (((cellAt (q23_1 h67) (Addr.add a85 (n42.toNat * 1))) = (some v86)) ∧ (ce (q23_1 h67) H1.size 7 v81 (stH (q23_1 h67) ⟨h67.size, 0, none⟩ v94 fun h97 => stH h97 ⟨h67.size, 1, none⟩ v95 fun h98 => stH h98 ⟨h67.size, 2, none⟩ v96 fun h99 => ldH h99 ⟨h67.size, 0, none⟩ fun v100 => ldH h99 ⟨h67.size, 1, none⟩ fun v101 => ldH h99 ⟨h67.size, 2, none⟩ fun v102 => bd n42 (k17 : Int) (asPtr (.pointer o16) fun a103 => stH h99 (Addr.add a103 (n42.toNat * 3)) v100 fun h104 => stH h104 (Addr.add (Addr.add a103 (n42.toNat * 3)) 1) v101 fun h105 => stH h105 (Addr.add (Addr.add a103 (n42.toNat * 3)) 2) v102 fun h106 => bd n42 (k7 : Int) (asPtr (.pointer o6) fun a107 => lI .i64 h106 (Addr.add a107 (n42.toNat * 1)) fun n109 => bd n42 (k7 : Int) (asPtr (.pointer o6) fun a110 => stH h106 (Addr.add a110 (n42.toNat * 1)) (.int .i64 (IntKind.wrap .i64 (n109 + 1))) fun h111 => lS h111 ⟨H3.size, 0, none⟩ fun o113 k114 k115 => ldH h111 ⟨h67.size, 0, none⟩ fun v116 => ldH h111 ⟨h67.size, 1, none⟩ fun v117 => ldH h111 ⟨h67.size, 2, none⟩ fun v118 => appH Tryz.prog #[54, 54] 54 #[.slice o113 k114 k115, .slice (some ⟨h111.size, 0, none⟩) 1 1] (Array.push h111 (.cells #[.int .i64 n42, .bool false, v116, v117, v118, .int .i64 0, .int .u32 0, .int .u32 0] 59)) fun v119 h120 => asSlice v119 fun o121 k122 k123 => stH h120 ⟨H3.size, 0, none⟩ (.slice o121 k122 k123) fun h124 => lI .i64 h124 ⟨h.size, 1, none⟩ fun n126 => lI .i64 h124 ⟨h67.size, 0, none⟩ fun n128 => lI .u32 h124 ⟨h67.size, 1, none⟩ fun n130 => lI .u32 h124 ⟨h67.size, 2, none⟩ fun n132 => cf 38 #[.pointer o45, .int .i64 (IntKind.wrap .i64 (n126 + n128)), .slice (some ⟨h124.size, 0, none⟩) 2 2] (Array.push h124 (.cells #[.int .u64 (IntKind.wrap .u64 n130), .int .u64 (IntKind.wrap .u64 n132)] 65)) fun v133 h134 => bd n42 (k12 : Int) (asPtr (.pointer o11) fun a135 => stH h134 (Addr.add a135 (n42.toNat * 1)) (.bool false) fun h136 => lI .i64 h136 ⟨H3.size, 3, none⟩ fun n138 => stH h136 ⟨H3.size, 3, none⟩ (.int .i64 (IntKind.wrap .i64 (n138 + 1))) fun h139 => I65 [] h139))))))))))))))))) (I65 [] h67)) ∧ (∀ (g140 : Env) (h141 : Heap), (I65 [] h141) → (ldH h141 ⟨H1.size, 0, none⟩ fun v142 => ldH h141 (Addr.add ⟨H1.size, 0, none⟩ 1) fun v143 => ldH h141 (Addr.add ⟨H1.size, 0, none⟩ 2) fun v144 => ldH h141 (Addr.add ⟨H1.size, 0, none⟩ 3) fun v145 => ldH h141 (Addr.add ⟨H1.size, 0, none⟩ 4) fun v146 => ldH h141 (Addr.add ⟨H1.size, 0, none⟩ 5) fun v147 => ldH h141 (Addr.add ⟨H1.size, 0, none⟩ 6) fun v148 => cf 47 #[.pointer xa, .agg #[v142, v143, v144, v145, v146, v147, v148]] h141 fun v149 h150 => asBool v149 fun b151 => ldH h150 ⟨h.size, 0, none⟩ fun v152 => cf 40 #[.pointer xa, .int .i64 n42, v152] h150 fun v153 h154 => asBool v153 fun b155 => exI fun I156 => (ifB (!b151) (I156 [.bool true, .bool true] h154) (ldH h154 ⟨H1.size, 0, none⟩ fun v157 => ldH h154 (Addr.add ⟨H1.size, 0, none⟩ 1) fun v158 => ldH h154 (Addr.add ⟨H1.size, 0, none⟩ 2) fun v159 => ldH h154 (Addr.add ⟨H1.size, 0, none⟩ 3) fun v160 => ldH h154 (Addr.add ⟨H1.size, 0, none⟩ 4) fun v161 => ldH h154 (Addr.add ⟨H1.size, 0, none⟩ 5) fun v162 => ldH h154 (Addr.add ⟨H1.size, 0, none⟩ 6) fun v163 => cf 47 #[.pointer xa, .agg #[v157, v158, v159, v160, v161, v162, v163]] h154 fun v164 h165 => asBool v164 fun b166 => I156 [.bool (!b166), .bool (!b166)] h165)) ∧ (∀ (v167 v168 : Value) (g169 : Env) (h170 : Heap), (I156 [v167, v168] h170) → (exI fun I171 => exM fun m172 => (I171 [.int .i64 0] h170) ∧ (∀ (v173 : Value) (g174 : Env) (h175 : Heap), (I171 [v173] h175) → (asInt .i64 v173 fun n176 => ifB (decide (n176 < (k2 : Int))) (exI fun I177 => (asInt .i64 v173 fun n178 => asInt .i64 v173 fun n179 => bd n179 (k12 : Int) (asPtr (.pointer o11) fun a180 => ldH h175 (Addr.add a180 (n179.toNat * 1)) fun v181 => asBool v181 fun b182 => ifB b182 (bd n178 (k12 : Int) (asPtr (.pointer o11) fun a183 => stH h175 (Addr.add a183 (n178.toNat * 1)) (.bool true) fun h184 => I177 [] h184)) (asBool v167 fun b185 => bd n178 (k12 : Int) (asPtr (.pointer o11) fun a186 => stH h175 (Addr.add a186 (n178.toNat * 1)) (.bool b185) fun h187 => I177 [] h187)))) ∧ (∀ (g188 : Env) (h189 : Heap), (I177 [] h189) → (asInt .i64 v173 fun n190 => (I171 [.int .i64 (IntKind.wrap .i64 (n190 + 1))] h189) ∧ ((m172 [.int .i64 (IntKind.wrap .i64 (n190 + 1))] h189) < (m172 [v173] h175))))) (exI fun I191 => (ldH h175 ⟨H3.size, 1, none⟩ fun v192 => asBool v192 fun b193 => ifB b193 (stH h175 ⟨H3.size, 1, none⟩ (.bool true) fun h194 => I191 [.bool true] h194) (cf 39 #[.pointer xa] h175 fun v195 h196 => asBool v195 fun b197 => stH h196 ⟨H3.size, 1, none⟩ (.bool b197) fun h198 => I191 [.bool b197] h198)) ∧ (∀ (v199 : Value) (g200 : Env) (h201 : Heap), (I191 [v199] h201) → (ifB b155 (I34 [.int .i64 n42, .pointer o45, v167, .bool b155, v173] h201) (cf 41 #[.pointer o45] h201 fun v202 h203 => asAgg v202 fun vs204 => sizeH vs204 3 (elemH vs204 0 fun v205 => elemH vs204 1 fun v206 => elemH vs204 2 fun v207 => stH (Array.push h203 (.cells #[.int .i64 0, .int .u32 0, .int .u32 0] 49)) ⟨h203.size, 0, none⟩ v205 fun h208 => stH h208 ⟨h203.size, 1, none⟩ v206 fun h209 => stH h209 ⟨h203.size, 2, none⟩ v207 fun h210 => lI .i64 h210 ⟨H3.size, 3, none⟩ fun n212 => stH h210 ⟨H3.size, 3, none⟩ (.int .i64 (IntKind.wrap .i64 (n212 - 1))) fun h213 => exI fun I214 => (ldH h213 ⟨H3.size, 1, none⟩ fun v215 => asBool v215 fun b216 => ifB b216 (stH h213 ⟨H3.size, 1, none⟩ (.bool true) fun h217 => I214 [.bool true] h217) (bd n42 (k17 : Int) (asPtr (.pointer o16) fun a218 => ldH h213 (Addr.add a218 (n42.toNat * 3)) fun v219 => ldH h213 (Addr.add (Addr.add a218 (n42.toNat * 3)) 1) fun v220 => ldH h213 (Addr.add (Addr.add a218 (n42.toNat * 3)) 2) fun v221 => ldH h213 ⟨h203.size, 0, none⟩ fun v222 => ldH h213 ⟨h203.size, 1, none⟩ fun v223 => ldH h213 ⟨h203.size, 2, none⟩ fun v224 => cf 48 #[.agg #[v219, v220, v221], .agg #[v222, v223, v224]] h213 fun v225 h226 => asBool v225 fun b227 => stH h226 ⟨H3.size, 1, none⟩ (.bool (!b227)) fun h228 => I214 [.bool (!b227)] h228))) ∧ (∀ (v229 : Value) (g230 : Env) (h231 : Heap), (I214 [v229] h231) → (exI fun I232 => (ldH h231 ⟨H3.size, 2, none⟩ fun v233 => asBool v233 fun b234 => ifB b234 (stH h231 ⟨H3.size, 2, none⟩ (.bool true) fun h235 => I232 [.tuple #[], .bool true] h235) (lI .i64 h231 ⟨h203.size, 0, none⟩ fun n237 => ifB (n237 == 1) (bd n42 (k12 : Int) (asPtr (.pointer o11) fun a238 => ldH h231 (Addr.add a238 (n42.toNat * 1)) fun v239 => asBool v239 fun b240 => stH h231 ⟨H3.size, 2, none⟩ (.bool (!b240)) fun h241 => I232 [.bool (!b240), .bool (!b240)] h241)) (stH h231 ⟨H3.size, 2, none⟩ (.bool false) fun h242 => I232 [.bool false, .bool false] h242))) ∧ (∀ (v243 v244 : Value) (g245 : Env) (h246 : Heap), (I232 [v243, v244] h246) → (lS h246 ⟨H3.size, 0, none⟩ fun o248 k249 k250 => ldH h246 ⟨h203.size, 0, none⟩ fun v251 => ldH h246 ⟨h203.size, 1, none⟩ fun v252 => ldH h246 ⟨h203.size, 2, none⟩ fun v253 => appH Tryz.prog #[54, 54] 54 #[.slice o248 k249 k250, .slice (some ⟨h246.size, 0, none⟩) 1 1] (Array.push h246 (.cells #[.int .i64 n42, .bool true, .int .i64 0, .int .u32 0, .int .u32 0, v251, v252, v253] 59)) fun v254 h255 => asSlice v254 fun o256 k257 k258 => stH h255 ⟨H3.size, 0, none⟩ (.slice o256 k257 k258) fun h259 => I34 [.int .i64 n42, .pointer o45, v167, .bool b155, v173] h259)))))))))))))))))))) ∧ (∀ (v260 v261 v262 v263 v264 : Value) (g265 : Env) (h266 : Heap), (I34 [v260, v261, v262, v263, v264] h266) → (asInt .i64 v21 fun n267 => (I19 [.int .i64 (IntKind.wrap .i64 (n267 + 1)), v260, v261, v262, v263, v264] h266) ∧ ((m20 [.int .i64 (IntKind.wrap .i64 (n267 + 1)), v260, v261, v262, v263, v264] h266) < (m20 [v21, v22, v23, v24, v25, v26] h28))))) (ldH h28 ⟨H3.size, 0, none⟩ fun v268 => ldH h28 ⟨H3.size, 1, none⟩ fun v269 => ldH h28 ⟨H3.size, 2, none⟩ fun v270 => ldH h28 ⟨H3.size, 3, none⟩ fun v271 => stH h28 ⟨H2.size, 0, none⟩ v268 fun h272 => stH h272 ⟨H2.size, 1, none⟩ v269 fun h273 => stH h273 ⟨H2.size, 2, none⟩ v270 fun h274 => stH h274 ⟨H2.size, 3, none⟩ v271 fun h275 => ldH h275 ⟨H2.size, 0, none⟩ fun v276 => ldH h275 ⟨H2.size, 1, none⟩ fun v277 => ldH h275 ⟨H2.size, 2, none⟩ fun v278 => ldH h275 ⟨H2.size, 3, none⟩ fun v279 => K (.agg #[v276, v277, v278, v279]) h275))))
def F23 (K : Value → Heap → Prop) (h : Heap) (xa : Value) (xb : Int) (xc : Option Addr) (xd xe xf xg xh xi xj : Int) (xk : Option Addr) (xl xm : Nat) (xn : Option Addr) (xo xp : Nat) (xq : Option Addr) (xr xs : Nat) : Prop :=
  (g23 K h (Array.push h (.cells #[xa, .int .i64 xb] 37)) (Array.push (Array.push h (.cells #[xa, .int .i64 xb] 37)) (.cells #[.int .i64 xd, .int .i64 xe, .int .i64 xf, .int .i64 xg, .int .i64 xh, .int .i64 xi, .int .i64 xj, .slice xk xl xm, .slice xn xo xp, .slice xq xr xs] 28)) (Array.push (Array.push (Array.push h (.cells #[xa, .int .i64 xb] 37)) (.cells #[.int .i64 xd, .int .i64 xe, .int .i64 xf, .int .i64 xg, .int .i64 xh, .int .i64 xi, .int .i64 xj, .slice xk xl xm, .slice xn xo xp, .slice xq xr xs] 28)) (.cells #[.slice none 0 0, .bool false, .bool false, .int .i64 0] 56)) (Array.push (Array.push (Array.push (Array.push h (.cells #[xa, .int .i64 xb] 37)) (.cells #[.int .i64 xd, .int .i64 xe, .int .i64 xf, .int .i64 xg, .int .i64 xh, .int .i64 xi, .int .i64 xj, .slice xk xl xm, .slice xn xo xp, .slice xq xr xs] 28)) (.cells #[.slice none 0 0, .bool false, .bool false, .int .i64 0] 56)) (.cells #[.slice none 0 0, .bool false, .bool false, .int .i64 0] 56)) xc)
theorem call23 {K : Value → Heap → Prop} {h : Heap} {xa : Value} {xb : Int} {xc : Option Addr} {xd xe xf xg xh xi xj : Int} {xk : Option Addr} {xl xm : Nat} {xn : Option Addr} {xo xp : Nat} {xq : Option Addr} {xr xs : Nat} (H : F23 K h xa xb xc xd xe xf xg xh xi xj xk xl xm xn xo xp xq xr xs) : CallH Tryz.prog 23 #[(.agg #[xa, (.int .i64 xb)]), (.pointer xc), (.agg #[(.int .i64 xd), (.int .i64 xe), (.int .i64 xf), (.int .i64 xg), (.int .i64 xh), (.int .i64 xi), (.int .i64 xj), (.slice xk xl xm), (.slice xn xo xp), (.slice xq xr xs)])] h K :=
  callH_mk Tryz.func23 (by kernel_rfl) (Eq.mp (by kernel_rfl) H)
abbrev g41 (K : Value → Heap → Prop) (h H1 : Heap) (xa : Option Addr) : Prop :=
  (nP xa fun a0 => bd 0 3 (lI .u64 H1 (Addr.add a0 2) fun n2 => nP xa fun a3 => bd 1 3 (lI .u64 H1 (Addr.add a3 3) fun n5 => nP xa fun a6 => bd 2 3 (lI .u64 H1 (Addr.add a6 4) fun n8 => stH H1 ⟨h.size, 0, none⟩ (.int .i64 (IntKind.wrap .i64 n2)) fun h9 => stH h9 ⟨h.size, 1, none⟩ (.int .u32 (IntKind.wrap .u32 n5)) fun h10 => stH h10 ⟨h.size, 2, none⟩ (.int .u32 (IntKind.wrap .u32 n8)) fun h11 => ldH h11 ⟨h.size, 0, none⟩ fun v12 => ldH h11 ⟨h.size, 1, none⟩ fun v13 => ldH h11 ⟨h.size, 2, none⟩ fun v14 => K (.agg #[v12, v13, v14]) h11))))
def F41 (K : Value → Heap → Prop) (h : Heap) (xa : Option Addr) : Prop :=
  (g41 K h (Array.push h (.cells #[.int .i64 0, .int .u32 0, .int .u32 0] 49)) xa)
theorem call41 {K : Value → Heap → Prop} {h : Heap} {xa : Option Addr} (H : F41 K h xa) : CallH Tryz.prog 41 #[(.pointer xa)] h K :=
  callH_mk Tryz.func41 (by kernel_rfl) (Eq.mp (by kernel_rfl) H)
def F47 (K : Value → Heap → Prop) (h : Heap) (xa : Option Addr) (xb xc xd xe xf xg xh : Int) : Prop :=
  (cf 79 #[.pointer xa] (Array.push h (.cells #[.int .i64 xb, .int .i64 xc, .int .i64 xd, .int .i64 xe, .int .i64 xf, .int .i64 xg, .int .i64 xh] 23)) fun v0 h1 => asSlice v0 fun o2 k3 k4 => ifB ((k3 : Int) == 0) (K (.bool false) h1) (lI .i64 h1 ⟨h.size, 0, none⟩ fun n6 => ifB (n6 != 0) (K (.bool true) h1) (ldH h1 ⟨h.size, 3, none⟩ fun v7 => asInt .i64 v7 fun n8 => cf 24 #[.pointer xa] h1 fun v9 h10 => asPtrO v9 fun o11 => ce h10 h.size 3 v7 (cf 25 #[.pointer o11] h10 fun v12 h13 => asSlice v12 fun o14 k15 k16 => ce h13 h.size 3 v7 (bd 2 (k15 : Int) (asPtr (.pointer o14) fun a17 => lI .u64 h13 (Addr.add a17 2) fun n19 => K (.bool (decide (n19 < (IntKind.wrap .u64 n8)))) h13))))))
theorem call47 {K : Value → Heap → Prop} {h : Heap} {xa : Option Addr} {xb xc xd xe xf xg xh : Int} (H : F47 K h xa xb xc xd xe xf xg xh) : CallH Tryz.prog 47 #[(.pointer xa), (.agg #[(.int .i64 xb), (.int .i64 xc), (.int .i64 xd), (.int .i64 xe), (.int .i64 xf), (.int .i64 xg), (.int .i64 xh)])] h K :=
  callH_mk Tryz.func47 (by kernel_rfl) (Eq.mp (by kernel_rfl) H)
end
section
open Mod
theorem und_lu : und Tryz.prog 60 = .slice 65 := by kernel_rfl
theorem zer_u64 : zer Tryz.prog 65 = some (.int .u64 0) := by kernel_rfl
theorem words_call {K : Value → Heap → Prop} {h : Heap} {R : Hp} {q : Nat} {m : Mm} (H : Sat h (memS q m * R)) (k : ∀ h' a c, Old h.size h h' → (∀ b, blk a b → h.size ≤ b) → (∀ P : Hp, Sat h P → Sat h' (ownS 65 1 a m.w.length c (uvs m.w) * P)) → K (.slice a m.w.length c) h') :
    CallH Tryz.prog 25 #[mP q] h K := by
  refine call25 ?_
  unfold F25 cf lS nP
  obtain ⟨b, la, lc, MB, H1⟩ := memS_iff.1 H
  have hw := H1.at2
  try simp only [nilC, bsx, Nat.reduceAdd, Int.reduceLE, Int.reduceLT, Int.reduceToNat]
  refine H1.ld rfl ?_
  try simp only [nilC, bsx, Nat.reduceAdd, Int.reduceLE, Int.reduceLT, Int.reduceToNat]
  refine callV_fn ?_
  refine call49 ?_
  unfold F49
  try simp only [nilC, bsx, Nat.reduceAdd, Int.reduceLE, Int.reduceLT, Int.reduceToNat]
  have o1 : Old h.size h (h.push (.cells #[] 65)) := (Old.refl _ _).push _ (Nat.le_refl _)
  have hlen : (uvs m.w).length = m.w.length := uvs_len _
  have hs : Sees h (some ⟨b, 0, none⟩) (uvs m.w) := fun i v hi => ⟨_, rfl, by rw [add_lit, Nat.zero_add, cellAt_of hw]; simpa using hi⟩
  have hs1 := hs.old o1
  have ow : Own (h.push (.cells #[] 65)) 65 (siz Tryz.prog 65) (some ⟨h.size, 0, none⟩) 0 0 [] := ⟨by simp, Nat.le_refl _, .inr ⟨h.size, #[], rfl, by simp, by simp, by simp⟩⟩
  have sz : (h.push (.cells #[] 65)).size = h.size + 1 := by simp
  generalize h.push (.cells #[] 65) = h1 at *
  have := MB.len
  refine appH_own2 und_lu there_u64 zer_u64 (by rw [siz_u64]; rfl) ow hs1 (by rw [siz_u64, hlen]; simp) (fun y hy => ?_) (by rw [byt_u64]; omega) (by rw [byt_u64]; omega) fun a' c' h2 o' hsz old ha => ?_
  · obtain ⟨n, _, rfl⟩ := List.mem_map.1 hy
    trivial
  rw [Nat.zero_add] at o' ⊢
  try simp only [nilC, bsx, Nat.reduceAdd, Int.reduceLE, Int.reduceLT, Int.reduceToNat]
  have o2 : Old h.size h h2 := ⟨by omega, fun b hb => (old b (by omega) fun ad ea => by cases ea; exact fun e => by simp at e; omega).trans (o1.2 b hb)⟩
  have fb : ∀ b, blk a' b → h.size ≤ b := by
    rintro b ⟨ad, e, rfl⟩
    rcases ha with ha | ⟨ha, _⟩
    · rw [e] at ha; cases ha; exact Nat.le_refl _
    · rw [e] at ha; cases ha; show h.size ≤ h1.size; omega
  rw [siz_u64] at o'
  exact k h2 a' c' o2 fb fun P HP => HP.mk_new o2 (fun b hb => ⟨fb b hb, o'.lt2 hb⟩) o'.nd fun h'' e => o'.congr e
def chainL (p : Pl) (w : List Int) : Nat → Int → List Int
  | 0, _ => []
  | n + 1, i => if p.link i < 0 then [] else i :: chainL p w n (s64 (w.getD (p.link i).toNat 0))
theorem chainL_len (p : Pl) (w : List Int) : ∀ (n : Nat) (i : Int), (chainL p w n i).length ≤ n
  | 0, _ => Nat.le_refl _
  | n + 1, i => by
    unfold chainL
    split
    · simp
    · simp only [List.length_cons]
      have := chainL_len p w n (s64 (w.getD (p.link i).toNat 0))
      omega
theorem link_lt {p : Pl} (B : PlB p) (hn : p.links + p.c.nodes = p.nodes) {i : Int} (h : ¬ p.link i < 0) : 0 ≤ p.link i ∧ p.link i < p.size := by
  have := B.si
  have := B.tr
  have := B.no
  unfold Pl.link at *
  split at h
  · rename_i c
    rw [if_pos c]
    omega
  · omega
theorem s64_nat1 (j : Nat) (h : j < 1000) : s64 ((j : Int) + 1) = ((j + 1 : Nat) : Int) := by unfold s64; omega
theorem nodes_seq {p1 p2 : Nat} {a : Option Addr} {c : Nat} {w : List Int} {p : Pl} (P : PlB p) (hn : p.links + p.c.nodes = p.nodes) (hw : (w.length : Int) = p.size) (hu : ∀ v ∈ w, U v) :
    SeqH Tryz.prog (.func (.func 205) #[] #[.pointer (some ⟨p1, 0, none⟩), .pointer (some ⟨p2, 0, none⟩)]) (chainL p w p.c.nodes.toNat (wptr (w.getD 0 0))).length (seqOf (chainL p w p.c.nodes.toNat (wptr (w.getD 0 0))))
      (fun h => cellAt h ⟨p1, 0, none⟩ = some (.slice a w.length c) ∧ h[p2]? = some (.cells (plc p).toArray 69) ∧ Sees h a (uvs w)) := by
  intro yf y1 y2 h N I X hN hev hok hy
  refine callV_cl ?_
  rw [cl3]
  refine call205 ?_
  unfold F205 cf bd lS lI
  have hsz := P.si
  have htr := P.tr
  have hnd := P.nd
  have hli := P.li
  have hno := P.no
  obtain ⟨e1, e2, e3⟩ := hev
  simp only [asPtr_some]
  refine ldH_mk e1 ?_
  simp only [asSlice_slice]
  obtain ⟨ad, rfl, hc⟩ := e3 0 (.int .u64 (w.getD 0 0)) (by
    have h0 : 0 < w.length := by omega
    unfold uvs
    rw [List.getElem?_map, List.getElem?_eq_getElem h0]
    simp [h0])
  refine ⟨by omega, by omega, ?_⟩
  simp only [asPtr_some]
  rw [show ad.add 0 = ad by cases ad; rfl] at hc
  refine ldH_mk hc ?_
  simp only [asInt_int]
  refine callV_fn (aPtr_call (getD_U hu 0) ?_)
  try simp only [nilC, bsx, Nat.reduceAdd, Int.reduceLE, Int.reduceLT, Int.reduceToNat]
  refine rd15 e2 ?_
  refine callV_fn (plConf_call fun h1 o1 => cf7 ?_)
  have hI1 := hok.keepI _ _ h h1 hN (Nat.le_refl _) hok.self (keep_of_old o1)
  have hs1 := o1.1
  try simp only [nilC, bsx, Nat.reduceAdd, Int.reduceLE, Int.reduceLT, Int.reduceToNat]
  have hlen := chainL_len p w p.c.nodes.toNat (wptr (w.getD 0 0))
  generalize hL : chainL p w p.c.nodes.toNat (wptr (w.getD 0 0)) = L at *
  refine ⟨fun vs h' => ∃ (cur : Int) (u : Value) (j : Nat), vs = [.int .i64 cur, u, .int .i64 j] ∧ (j : Int) ≤ p.c.nodes ∧ j ≤ L.length ∧ iN cur ∧ L.drop j = chainL p w (p.c.nodes.toNat - j) cur ∧ h.size ≤ h'.size ∧ I h.size j h', fun vs _ => match vs with | [_, _, .int _ i] => (p.c.nodes - i).toNat | _ => 0, ⟨_, _, 0, rfl, by omega, by omega, wptr_iN _, by rw [List.drop_zero, ← hL]; rfl, hs1, hI1⟩, ?_⟩
  rintro v40 v41 v42 g43 h44 ⟨cur, u, j, e, hj, hjl, hcur, hd, hs, hI⟩
  cases e
  try simp only [nilC, bsx, Nat.reduceAdd, Int.reduceLE, Int.reduceLT, Int.reduceToNat]
  refine ifB_dec (fun c1 => ?_) (fun c1 => ?_)
  · obtain ⟨e1', e2', e3'⟩ := hok.env _ _ _ hN hs hI
    try simp only [nilC, bsx, Nat.reduceAdd, Int.reduceLE, Int.reduceLT, Int.reduceToNat]
    refine rd15 e2' ?_
    refine callV_fn (plLink_call P hcur fun h64 o64 => ?_)
    have hI2 := hok.keepI _ _ h44 h64 hN hs hI (keep_of_old o64)
    have hs2 : h.size ≤ h64.size := Nat.le_trans hs o64.1
    try simp only [nilC, bsx, Nat.reduceAdd, Int.reduceLE, Int.reduceLT, Int.reduceToNat]
    have hn1 : p.c.nodes.toNat - j = (p.c.nodes.toNat - (j + 1)) + 1 := by omega
    rw [hn1] at hd
    unfold chainL at hd
    refine ⟨fun vs h' => (vs = [.bool true] ∧ ∃ M, N ≤ M ∧ h.size ≤ M ∧ M ≤ h'.size ∧ (I M L.length h' ∨ X M () h')) ∨ (vs = [.bool false] ∧ ¬ p.link cur < 0 ∧ h.size ≤ h'.size ∧ I h.size (j + 1) h'), ?_, ?_⟩
    · refine ifB_dec (fun c2 => ?_) (fun c2 => ?_)
      · rw [if_pos c2] at hd
        have : j = L.length := by
          have := congrArg List.length hd
          simp at this
          omega
        subst this
        exact .inl ⟨rfl, h.size, hN, Nat.le_refl _, hs2, .inl hI2⟩
      · rw [if_neg c2] at hd
        have hjlt : j < L.length := by
          have := congrArg List.length hd
          simp at this
          omega
        have hcu : L[j] = cur := by
          have h1 := congrArg (fun l => l[0]?) hd
          simp only [List.getElem?_drop, List.getElem?_cons_zero, Nat.add_zero] at h1
          rw [List.getElem?_eq_getElem hjlt] at h1
          exact Option.some.inj h1
        have hyk := hy h.size j h64 hjlt hN (Nat.le_refl _) hs2 hI2
        have e2 : seqOf L j = #[.int .i64 cur] := by unfold seqOf; simp [hjlt, hcu]
        rw [e2] at hyk
        refine callV_mono ?_ hyk
        rintro w' h'' ⟨hm, ⟨rfl, hI'⟩ | ⟨rfl, hX⟩⟩
        · try simp only [nilC, bsx, Nat.reduceAdd, Int.reduceLE, Int.reduceLT, Int.reduceToNat]
          exact .inr ⟨c2, Nat.le_trans hs2 hm.1, hI'⟩
        · try simp only [nilC, bsx, Nat.reduceAdd, Int.reduceLE, Int.reduceLT, Int.reduceToNat]
          exact .inl ⟨h.size, hN, Nat.le_refl _, Nat.le_trans hs2 hm.1, .inr hX⟩
    rintro v71 g72 h73 (⟨e, hF⟩ | ⟨e, c2, hs3, hI3⟩)
    · cases e
      try simp only [nilC, bsx, Nat.reduceAdd, Int.reduceLE, Int.reduceLT, Int.reduceToNat]
      exact hF
    · cases e
      try simp only [nilC, bsx, Nat.reduceAdd, Int.reduceLE, Int.reduceLT, Int.reduceToNat]
      rw [if_neg c2] at hd
      obtain ⟨f1, f2, f3⟩ := hok.env _ _ _ hN hs3 hI3
      have hlk := link_lt P hn c2
      refine ldH_mk f1 ?_
      try simp only [nilC, bsx, Nat.reduceAdd, Int.reduceLE, Int.reduceLT, Int.reduceToNat]
      refine ⟨by omega, by omega, ?_⟩
      obtain ⟨ad2, ea, hc2⟩ := f3 (p.link cur).toNat (.int .u64 (w.getD (p.link cur).toNat 0)) (by
        have h0 : (p.link cur).toNat < w.length := by omega
        unfold uvs
        rw [List.getElem?_map, List.getElem?_eq_getElem h0]
        simp [h0])
      cases ea
      try simp only [nilC, bsx, Nat.reduceAdd, Int.reduceLE, Int.reduceLT, Int.reduceToNat]
      refine ldH_mk hc2 ?_
      try simp only [nilC, bsx, Nat.reduceAdd, Int.reduceLE, Int.reduceLT, Int.reduceToNat]
      have hjlt : j + 1 ≤ L.length := by
        have := congrArg List.length hd
        simp at this
        omega
      rw [s64_nat1 j (by omega)]
      refine ⟨⟨_, _, j + 1, rfl, by omega, hjlt, s64_iN _, ?_, hs3, hI3⟩, ?_⟩
      · rw [← List.drop_drop, hd]
        rfl
      · omega
  · have h0 : p.c.nodes.toNat - j = 0 := by omega
    rw [h0] at hd
    have : j = L.length := by
      have := congrArg List.length hd
      simp [chainL] at this
      omega
    subst this
    exact ⟨h.size, hN, Nat.le_refl _, hs, .inl hI⟩
end
section
open Mod
section
variable {K : Value → Heap → Prop} {h : Heap} {M T b o N : Nat} {tv : Value} {R : Hp} {m : Mac}
theorem nodes_call {a : Option Addr} {l c : Nat} {p : Pl} (k : K (.func (.func 205) #[] #[.pointer (some ⟨h.size, 0, none⟩), .pointer (some ⟨(h.push (.cells #[.slice a l c] 60)).size, 0, none⟩)]) ((h.push (.cells #[.slice a l c] 60)).push (.cells (plc p).toArray 69))) :
    CallH Tryz.prog 155 #[.slice a l c, plV p] h K := by
  refine call155 ?_
  unfold F155 g155
  exact k
structure WdOk (m : Mac) : Prop where
  hn : m.p.links + m.p.c.nodes = m.p.nodes
  hw : (m.mm.w.length : Int) = m.p.size
theorem chain_call (H : Sat h (macS M tv m * R)) (W : WdOk m) (k : ∀ h' a l c, Sat h' (macS M tv m * R) → K (.slice a l c) h') :
    CallH Tryz.prog 79 #[mP M] h K := by
  refine call79 ?_
  unfold F79 cf lS
  obtain ⟨X, hX, bX, HX⟩ := (show Sat h (emp * (macS M tv m * R)) from (emp_star _).symm ▸ H).freeze
  rw [emp_star] at HX
  try simp only [nilC, bsx, Nat.reduceAdd, Int.reduceLE, Int.reduceLT, Int.reduceToNat]
  have s0 : h.size < (h.push (.cells #[.slice none 0 0] 25)).size := by simp
  have H1 := H.push (.cells #[.slice none 0 0] 25)
  have HX1 := HX.push (.cells #[.slice none 0 0] 25)
  generalize hh1 : h.push (.cells #[.slice none 0 0] 25) = h1 at *
  clear hh1
  generalize hN : h.size = N at *
  rw [star_left] at H1
  obtain ⟨q0, gq0, fq0, P, _⟩ := macS_iff.1 H1
  refine callV_fn (mcMem_call H1 fun q R' HM re => ?_)
  have MB := memS_B HM
  try simp only [nilC, bsx, Nat.reduceAdd, Int.reduceLE, Int.reduceLT, Int.reduceToNat]
  refine callV_fn (words_call HM fun h5 a c o5 fb own => ?_)
  try simp only [nilC, bsx, Nat.reduceAdd, Int.reduceLE, Int.reduceLT, Int.reduceToNat]
  have H5 := own _ H1
  have HX5 := own _ HX1
  refine callV_fn (mcPlanO_call (H1.old o5) fun h10 o10 => pl15 ?_)
  have H10 := H5.old o10
  have HX10 := HX5.old o10
  refine callV_fn (nodes_call ?_)
  have H11 := H10.push (.cells #[.slice a m.mm.w.length c] 60)
  have H12 := H11.push (.cells (plc m.p).toArray 69)
  have HX12 := (HX10.push (.cells #[.slice a m.mm.w.length c] 60)).push (.cells (plc m.p).toArray 69)
  have z1 : h10.size ≠ N := by have := o5.1; have := o10.1; omega
  have z2 : (h10.push (.cells #[.slice a m.mm.w.length c] 60)).size ≠ N := by have := o5.1; have := o10.1; simp; omega
  generalize h10.push (.cells #[.slice a m.mm.w.length c] 60) = h11 at *
  generalize h11.push (.cells (plc m.p).toArray 69) = h12 at *
  generalize h10.size = p1 at *
  generalize h11.size = p2 at *
  have ow := (H12.drop.drop).own
  have HN : Sat h12 (pt N (.cells #[.slice none 0 0] 25) * X) := HX12.drop.drop.drop
  have hu : ∀ v ∈ m.mm.w, U v := MB.us
  have sl : SeqLA (fun b => b = N) (.func (.func 205) #[] #[.pointer (some ⟨p1, 0, none⟩), .pointer (some ⟨p2, 0, none⟩)]) (chainL m.p m.mm.w m.p.c.nodes.toNat (wptr (m.mm.w.getD 0 0))) h12 := by
    refine ⟨_, _, _, _, rfl, nodes_seq P W.hn W.hw hu, ⟨cellAt_of H12.at2 0, H12.at, ow.sees⟩, ?_⟩
    rintro h h' oa ⟨x1, x2, x3⟩
    refine ⟨oa.cell z1 x1, ?_, ?_⟩
    · exact (oa.2 _ (Array.getElem?_eq_some_iff.1 x2).1 z2).trans x2
    · intro i v hi
      obtain ⟨ad, ea, hc⟩ := x3 i v hi
      refine ⟨ad, ea, (cellAt_congr ?_).trans hc⟩
      have hlt := cellAt_lt hc
      rw [add_block] at hlt ⊢
      refine oa.2 _ hlt fun e => ?_
      have := fb _ ⟨ad, ea, rfl⟩
      omega
  have hl := chainL_len m.p m.mm.w m.p.c.nodes.toNat (wptr (m.mm.w.getD 0 0))
  refine range_collect sl HN.at (by have := P.no; omega) fun h43 a2 c2 hs old hN2 ow2 fb2 => ?_
  refine ldR hN2 rfl ?_
  try simp only [nilC, bsx, Nat.reduceAdd, Int.reduceLE, Int.reduceLT, Int.reduceToNat]
  intro h48 sd
  refine k h48 _ _ _ ?_
  have HC := HN.collect hs old hN2 ow2 fb2
  rw [← star_assoc] at HC
  have HD := (HC.sameD (NdA.own.star NdA.pt) bX sd).drop
  rw [← emp_star X] at HD
  have HE := HD.mono2 hX
  rw [emp_star] at HE
  exact HE
theorem room_call (H : Sat h (macS M tv m * R)) (W : WdOk m) (hw3 : 2 < m.mm.w.length) {c : Mod.Cf} (k : ∀ h' b, Sat h' (macS M tv m * R) → K (.bool b) h') :
    CallH Tryz.prog 47 #[mP M, cfV c] h K := by
  refine call47 ?_
  unfold F47 cf ce bd lI
  have H1 := H.push (.cells #[.int .i64 c.algo, .int .i64 c.threads, .int .i64 c.nodes, .int .i64 c.level, .int .i64 c.batch, .int .i64 c.probes, .int .i64 c.scan] 23)
  generalize h.push (.cells #[.int .i64 c.algo, .int .i64 c.threads, .int .i64 c.nodes, .int .i64 c.level, .int .i64 c.batch, .int .i64 c.probes, .int .i64 c.scan] 23) = h1 at *
  generalize h.size = N at *
  rw [star_left] at H1
  refine callV_fn (chain_call H1 W fun h2 a l cc H2 => ?_)
  try simp only [nilC, bsx, Nat.reduceAdd, Int.reduceLE, Int.reduceLT, Int.reduceToNat]
  refine ifB_mk (fun _ => k h2 _ H2.drop2) (fun _ => ?_)
  refine ldR H2.at2 rfl ?_
  try simp only [nilC, bsx, Nat.reduceAdd, Int.reduceLE, Int.reduceLT, Int.reduceToNat]
  refine ifB_mk (fun _ => k h2 _ H2.drop2) (fun _ => ?_)
  refine ldR H2.at2 rfl ?_
  try simp only [nilC, bsx, Nat.reduceAdd, Int.reduceLE, Int.reduceLT, Int.reduceToNat]
  refine callV_fn (mcMem_call H2 fun q R' HM re => ?_)
  try simp only [nilC, bsx, Nat.reduceAdd, Int.reduceLE, Int.reduceLT, Int.reduceToNat]
  refine ⟨cellR H2.at2 rfl, ?_⟩
  refine callV_fn (words_call HM fun h5 a c o5 fb own => ?_)
  have H5 := own _ H2
  have ow := H5.own.sees
  try simp only [nilC, bsx, Nat.reduceAdd, Int.reduceLE, Int.reduceLT, Int.reduceToNat]
  refine ⟨cellR H5.at3 rfl, by omega, ?_⟩
  obtain ⟨ad, ea, hc⟩ := ow 2 (.int .u64 (m.mm.w.getD 2 0)) (by unfold uvs; rw [List.getElem?_map, List.getElem?_eq_getElem hw3]; simp [hw3])
  subst ea
  try simp only [nilC, bsx, Nat.reduceAdd, Int.reduceLE, Int.reduceLT, Int.reduceToNat]
  unfold ldH
  rw [hc]
  try simp only [nilC, bsx, Nat.reduceAdd, Int.reduceLE, Int.reduceLT, Int.reduceToNat]
  exact k h5 _ H5.drop.drop2
theorem answer_call {T : Nat} {t : Thr} {id : Int} {fo : Option (Nat × Nat)} (H : Sat h (thrS T fo t id * R)) (k : ∀ h', Sat h' (thrS T fo t id * R) → K (.agg #[.int .i64 (s64 (t.ret.getD 0 0)), .int .u32 (u32 (t.ret.getD 1 0)), .int .u32 (u32 (t.ret.getD 2 0))]) h') :
    CallH Tryz.prog 41 #[mP T] h K := by
  refine call41 ?_
  unfold F41 g41 bd lI nP
  have H1 := H.push (.cells #[.int .i64 0, .int .u32 0, .int .u32 0] 49)
  generalize h.push (.cells #[.int .i64 0, .int .u32 0, .int .u32 0] 49) = h1 at *
  generalize h.size = N at *
  obtain ⟨B, O⟩ := thrS_own H1.drop
  try simp only [nilC, bsx, Nat.reduceAdd, Int.reduceLE, Int.reduceLT, Int.reduceToNat]
  refine ldR O rfl ?_
  try simp only [nilC, bsx, Nat.reduceAdd, Int.reduceLE, Int.reduceLT, Int.reduceToNat]
  refine ldR O rfl ?_
  try simp only [nilC, bsx, Nat.reduceAdd, Int.reduceLE, Int.reduceLT, Int.reduceToNat]
  refine ldR O rfl ?_
  try simp only [nilC, bsx, Nat.reduceAdd, Int.reduceLE, Int.reduceLT, Int.reduceToNat, wrap32_mod]
  refine st3 (stN_full (vs := [.int .i64 (s64 (t.ret.getD 0 0)), .int .u32 (u32 (t.ret.getD 1 0)), .int .u32 (u32 (t.ret.getD 2 0))]) H1.at rfl (by simp [oneC]) fun h3 w => ?_)
  have H3 := H1.wr w.new w.old
  refine ldR H3.at rfl (ldR H3.at rfl (ldR H3.at rfl ?_))
  exact k h3 H3.drop
end
end
section
open Mod
structure Cl where
  op : Int
  key : Int
  val : Int
def clc (c : Cl) : List Value := [.int .i64 c.op, .int .u32 c.key, .int .u32 c.val]
structure EvM where
  k : Int
  back : Bool
  c : Cl
  a : Cl
def evc (e : EvM) : List Value := [.int .i64 e.k, .bool e.back, .int .i64 e.c.op, .int .u32 e.c.key, .int .u32 e.c.val, .int .i64 e.a.op, .int .u32 e.a.key, .int .u32 e.a.val]
structure DS where
  m : Mac
  nx : List Int
  cu : List Cl
  ev : List EvM
structure DB where
  pb : Nat
  nb : Nat
  tb : Nat
  cb : Nat
def bv (b : Bool) : Value := .bool b
def playC (ea : Option Addr) (n ec : Nat) (o r : Bool) (bz : Int) : List Value := [.slice ea n ec, .bool o, .bool r, .int .i64 bz]
def drvS (B : DB) (M : Nat) (Ts : List Nat) (n : Nat) (s : DS) : Hp := ex fun ea => ex fun ec => ex fun o => ex fun r => ex fun bz => ex fun tg : List Bool => pr (s.nx.length = n ∧ tg.length = n ∧ s.cu.length = n)
  (pt B.pb (.cells (playC ea s.ev.length ec o r bz).toArray 56) * (ownS 59 8 ea s.ev.length ec (s.ev.flatMap evc) * (pt B.nb (.cells (s.nx.map iv).toArray 3) * (pt B.tb (.cells (tg.map bv).toArray 4) * (pt B.cb (.cells (s.cu.flatMap clc).toArray 53) * machS M Ts s.m)))))
theorem drvS_iff {h : Heap} {B : DB} {M : Nat} {Ts : List Nat} {n : Nat} {s : DS} {R : Hp} : Sat h (drvS B M Ts n s * R) ↔ ∃ ea ec o r bz, ∃ tg : List Bool, (s.nx.length = n ∧ tg.length = n ∧ s.cu.length = n) ∧
    Sat h (pt B.pb (.cells (playC ea s.ev.length ec o r bz).toArray 56) * (ownS 59 8 ea s.ev.length ec (s.ev.flatMap evc) * (pt B.nb (.cells (s.nx.map iv).toArray 3) * (pt B.tb (.cells (tg.map bv).toArray 4) * (pt B.cb (.cells (s.cu.flatMap clc).toArray 53) * (machS M Ts s.m * R)))))) := by
  unfold drvS
  simp only [Sat.ex, Sat.pr, star_assoc]
theorem rot5 (A B C D E R : Hp) : A * (B * (C * (D * (E * R)))) = E * (A * (B * (C * (D * R)))) := by rw [star_left D E, star_left C E, star_left B E, star_left A E]
theorem flat_set3 (c : Cl) : ∀ (l : List Cl) (i : Nat), i < l.length → (((l.flatMap clc).set (i * 3) (.int .i64 c.op)).set (i * 3 + 1) (.int .u32 c.key)).set (i * 3 + 2) (.int .u32 c.val) = (l.set i c).flatMap clc
  | [], _, h => by simp at h
  | x :: l, 0, _ => rfl
  | x :: l, i + 1, h => by
    have ih := flat_set3 c l i (by simpa using h)
    have e : (i + 1) * 3 = i * 3 + 3 := by omega
    rw [e]
    show Value.int .i64 x.op :: Value.int .u32 x.key :: Value.int .u32 x.val :: _ = Value.int .i64 x.op :: Value.int .u32 x.key :: Value.int .u32 x.val :: _
    congr 3
theorem clc_len (c : Cl) : (clc c).length = 3 := rfl
theorem evc_len (e : EvM) : (evc e).length = 8 := rfl
theorem evd_und : und Tryz.prog 54 = .slice 59 := by kernel_rfl
theorem evd_there : there Tryz.prog 59 = true := by kernel_rfl
theorem evd_siz : siz Tryz.prog 59 = 8 := by kernel_rfl
theorem evd_byt : byt Tryz.prog 59 = 48 := by kernel_rfl
theorem evd_zer : zer Tryz.prog 59 = some (.agg #[.int .i64 0, .bool false, .int .i64 0, .int .u32 0, .int .u32 0, .int .i64 0, .int .u32 0, .int .u32 0]) := by kernel_rfl
section
variable {K : Value → Heap → Prop} {h : Heap} {M T : Nat} {B : DB} {Ts : List Nat} {n : Nat} {s : DS} {R : Hp}
theorem drvS_mac (H : Sat h (drvS B M Ts n s * R)) : ∃ Q : Hp, Sat h (machS M Ts s.m * (Q * R)) ∧ ∀ h' m' P, Sat h' (machS M Ts m' * (Q * P)) → Sat h' (drvS B M Ts n { s with m := m' } * P) := by
  obtain ⟨ea, ec, o, r, bz, tg, hl, H1⟩ := drvS_iff.1 H
  refine ⟨pt B.pb (.cells (playC ea s.ev.length ec o r bz).toArray 56) * (ownS 59 8 ea s.ev.length ec (s.ev.flatMap evc) * (pt B.nb (.cells (s.nx.map iv).toArray 3) * (pt B.tb (.cells (tg.map bv).toArray 4) * pt B.cb (.cells (s.cu.flatMap clc).toArray 53)))), Sat.ac H1 (by ac_rfl), fun h' m' P H' => ?_⟩
  exact drvS_iff.2 ⟨ea, ec, o, r, bz, tg, hl, Sat.ac H' (by ac_rfl)⟩
theorem drvS_play (H : Sat h (drvS B M Ts n s * R)) : ∃ ea ec o r bz, h[B.pb]? = some (.cells (playC ea s.ev.length ec o r bz).toArray 56) := by
  obtain ⟨ea, ec, o, r, bz, tg, hl, H1⟩ := drvS_iff.1 H
  exact ⟨ea, ec, o, r, bz, H1.at⟩
theorem drvS_odd (H : Sat h (drvS B M Ts n s * R)) {b : Bool} {F : Heap → Prop} (k : ∀ h', Sat h' (drvS B M Ts n s * R) → F h') : stH h ⟨B.pb, 1, none⟩ (.bool b) F := by
  obtain ⟨ea, ec, o, r, bz, tg, hl, H1⟩ := drvS_iff.1 H
  exact H1.st (i := 1) rfl trivial fun h' H' => k h' (drvS_iff.2 ⟨ea, ec, b, r, bz, tg, hl, H'⟩)
theorem drvS_roomy (H : Sat h (drvS B M Ts n s * R)) {b : Bool} {F : Heap → Prop} (k : ∀ h', Sat h' (drvS B M Ts n s * R) → F h') : stH h ⟨B.pb, 2, none⟩ (.bool b) F := by
  obtain ⟨ea, ec, o, r, bz, tg, hl, H1⟩ := drvS_iff.1 H
  exact H1.st (i := 2) rfl trivial fun h' H' => k h' (drvS_iff.2 ⟨ea, ec, o, b, bz, tg, hl, H'⟩)
theorem drvS_busy (H : Sat h (drvS B M Ts n s * R)) {b : Int} {F : Heap → Prop} (k : ∀ h', Sat h' (drvS B M Ts n s * R) → F h') : stH h ⟨B.pb, 3, none⟩ (.int .i64 b) F := by
  obtain ⟨ea, ec, o, r, bz, tg, hl, H1⟩ := drvS_iff.1 H
  exact H1.st (i := 3) rfl trivial fun h' H' => k h' (drvS_iff.2 ⟨ea, ec, o, r, b, tg, hl, H'⟩)
theorem drvS_tg (H : Sat h (drvS B M Ts n s * R)) {i : Nat} (hi : i < n) : ∃ b, cellAt h ⟨B.tb, i, none⟩ = some (.bool b) := by
  obtain ⟨ea, ec, o, r, bz, tg, hl, H1⟩ := drvS_iff.1 H
  have O := (H1.drop.drop.drop).at
  have hi2 : i < tg.length := by rw [hl.2.1]; exact hi
  refine ⟨tg[i], ?_⟩
  rw [cellAt_of O]
  simp [hi2, bv]
theorem drvS_tgst (H : Sat h (drvS B M Ts n s * R)) {i : Nat} (hi : i < n) {b : Bool} {F : Heap → Prop} (k : ∀ h', Sat h' (drvS B M Ts n s * R) → F h') : stH h ⟨B.tb, i, none⟩ (.bool b) F := by
  obtain ⟨ea, ec, o, r, bz, tg, hl, H1⟩ := drvS_iff.1 H
  rw [rot4] at H1
  have hi2 : i < tg.length := by rw [hl.2.1]; exact hi
  refine st_nat (row := tg.map bv) (i := i) H1 (by simpa using hi2) trivial fun h' H' => k h' ?_
  have e : (tg.map bv).set i (.bool b) = (tg.set i b).map bv := by rw [List.map_set]; try rfl
  rw [e, ← rot4] at H'
  exact drvS_iff.2 ⟨ea, ec, o, r, bz, tg.set i b, ⟨hl.1, by simp [hl.2.1], hl.2.2⟩, H'⟩
theorem drvS_nx (H : Sat h (drvS B M Ts n s * R)) {i : Nat} (hi : i < n) : cellAt h ⟨B.nb, i, none⟩ = some (.int .i64 (s.nx.getD i 0)) := by
  obtain ⟨ea, ec, o, r, bz, tg, hl, H1⟩ := drvS_iff.1 H
  have O := (H1.drop.drop).at
  have hi2 : i < s.nx.length := by rw [hl.1]; exact hi
  rw [cellAt_of O]
  simp [hi2, iv]
theorem drvS_nxst (H : Sat h (drvS B M Ts n s * R)) {i : Nat} (hi : i < n) {v : Int} {F : Heap → Prop} (k : ∀ h', Sat h' (drvS B M Ts n { s with nx := s.nx.set i v } * R) → F h') : stH h ⟨B.nb, i, none⟩ (.int .i64 v) F := by
  obtain ⟨ea, ec, o, r, bz, tg, hl, H1⟩ := drvS_iff.1 H
  rw [rot3] at H1
  have hi2 : i < s.nx.length := by rw [hl.1]; exact hi
  refine st_nat (row := s.nx.map iv) (i := i) H1 (by simpa using hi2) trivial fun h' H' => k h' ?_
  have e : (s.nx.map iv).set i (.int .i64 v) = (s.nx.set i v).map iv := by rw [List.map_set]; try rfl
  rw [e, ← rot3] at H'
  exact drvS_iff.2 ⟨ea, ec, o, r, bz, tg, ⟨by simp [hl.1], hl.2.1, hl.2.2⟩, H'⟩
theorem drvS_cu (H : Sat h (drvS B M Ts n s * R)) {i : Nat} (hi : i < n) : ∃ c : Cl, cellAt h ⟨B.cb, i * 3, none⟩ = some (.int .i64 c.op) ∧ cellAt h ⟨B.cb, i * 3 + 1, none⟩ = some (.int .u32 c.key) ∧ cellAt h ⟨B.cb, i * 3 + 2, none⟩ = some (.int .u32 c.val) := by
  obtain ⟨ea, ec, o, r, bz, tg, hl, H1⟩ := drvS_iff.1 H
  have O := (H1.drop.drop.drop.drop).at
  have hi2 : i < s.cu.length := by rw [hl.2.2]; exact hi
  refine ⟨s.cu[i], ?_, ?_, ?_⟩
  · rw [cellAt_of O, List.getElem?_toArray]; exact flat_get clc_len hi2 (j := 0) (by omega)
  · rw [cellAt_of O, List.getElem?_toArray]; exact flat_get clc_len hi2 (j := 1) (by omega)
  · rw [cellAt_of O, List.getElem?_toArray]; exact flat_get clc_len hi2 (j := 2) (by omega)
theorem drvS_cust (H : Sat h (drvS B M Ts n s * R)) {i : Nat} (hi : i < n) {c : Cl} {F : Heap → Prop} (k : ∀ h', Sat h' (drvS B M Ts n { s with cu := s.cu.set i c } * R) → F h') :
    stH h ⟨B.cb, i * 3, none⟩ (.int .i64 c.op) fun h1 => stH h1 ⟨B.cb, i * 3 + 1, none⟩ (.int .u32 c.key) fun h2 => stH h2 ⟨B.cb, i * 3 + 2, none⟩ (.int .u32 c.val) F := by
  obtain ⟨ea, ec, o, r, bz, tg, hl, H1⟩ := drvS_iff.1 H
  rw [rot5] at H1
  have hi2 : i < s.cu.length := by rw [hl.2.2]; exact hi
  have hlen : (s.cu.flatMap clc).length = s.cu.length * 3 := flat_len clc_len _
  refine st_nat (row := s.cu.flatMap clc) (i := i * 3) H1 (by omega) trivial fun h1 H2 => ?_
  refine st_nat (i := i * 3 + 1) H2 (by rw [List.length_set]; omega) trivial fun h2 H3 => ?_
  refine st_nat (i := i * 3 + 2) H3 (by rw [List.length_set, List.length_set]; omega) trivial fun h3 H4 => k h3 ?_
  rw [flat_set3 c s.cu i hi2, ← rot5] at H4
  exact drvS_iff.2 ⟨ea, ec, o, r, bz, tg, ⟨hl.1, hl.2.1, by simp [hl.2.2]⟩, H4⟩
theorem drvS_ev (H : Sat h (drvS B M Ts n s * R)) {e : EvM} (hb : s.ev.length ≤ 1000000) {ea : Option Addr} {ec : Nat} (hea : cellAt h ⟨B.pb, 0, none⟩ = some (.slice ea s.ev.length ec)) {F : Heap → Prop} (k : ∀ h', Sat h' (drvS B M Ts n { s with ev := s.ev ++ [e] } * R) → F h') :
    appH Tryz.prog #[54, 54] 54 #[.slice ea s.ev.length ec, .slice (some ⟨h.size, 0, none⟩) 1 1] (h.push (.cells #[.int .i64 e.k, .bool e.back, .int .i64 e.c.op, .int .u32 e.c.key, .int .u32 e.c.val, .int .i64 e.a.op, .int .u32 e.a.key, .int .u32 e.a.val] 59))
      fun v h' => asSlice v fun o k1 k2 => stH h' ⟨B.pb, 0, none⟩ (.slice o k1 k2) F := by
  obtain ⟨ea', ec', o, r, bz, tg, hl, H1⟩ := drvS_iff.1 H
  have O := cellAt_of H1.at 0
  rw [O] at hea
  have he : Value.slice ea' s.ev.length ec' = .slice ea s.ev.length ec := by simpa [playC] using hea
  cases he
  have H2 := H1.push (.cells (evc e).toArray 59)
  have hs : Sees (h.push (.cells (evc e).toArray 59)) (some ⟨h.size, 0, none⟩) (evc e) := fun j v hj => ⟨_, rfl, by rw [add_lit, Nat.zero_add, cellAt_of H2.at]; simpa using hj⟩
  rw [show (.cells #[.int .i64 e.k, .bool e.back, .int .i64 e.c.op, .int .u32 e.c.key, .int .u32 e.c.val, .int .i64 e.a.op, .int .u32 e.a.key, .int .u32 e.a.val] 59 : Obj) = .cells (evc e).toArray 59 from rfl]
  generalize h.push (.cells (evc e).toArray 59) = h2 at *
  generalize h.size = N at *
  have H3 := H2.drop
  rw [star_left, ← evd_siz] at H3
  refine H3.app evd_und evd_there evd_zer (by rw [evd_siz]; rfl) hs (n := 1) (by rw [evd_siz]; rfl) (fun y hy => ?_) (by rw [evd_byt]; omega) (by rw [evd_byt]; omega) fun a' c' h3 H4 => ?_
  · simp only [evc, List.mem_cons, List.not_mem_nil, or_false] at hy
    rcases hy with rfl | rfl | rfl | rfl | rfl | rfl | rfl | rfl <;> trivial
  rw [evd_siz, star_left] at H4
  try simp only [nilC, bsx, Nat.reduceAdd, Int.reduceLE, Int.reduceLT, Int.reduceToNat]
  refine H4.st (i := 0) rfl trivial fun h4 H5 => k h4 (drvS_iff.2 ⟨a', c', o, r, bz, tg, hl, ?_⟩)
  have e1 : (s.ev ++ [e]).length = s.ev.length + 1 := by simp
  have e2 : (s.ev ++ [e]).flatMap evc = s.ev.flatMap evc ++ evc e := by simp
  show Sat h4 (pt B.pb (.cells (playC a' (s.ev ++ [e]).length c' o r bz).toArray 56) * (ownS 59 8 a' (s.ev ++ [e]).length c' ((s.ev ++ [e]).flatMap evc) * _))
  rw [e1, e2]
  exact H5
end
end
section
open Mod
section
variable {K : Value → Heap → Prop} {h : Heap}
end
end
section
set_option maxRecDepth 100000

end
section
open Mod
abbrev rV (M T b o : Nat) : Value := .agg #[mP M, mP T, fP b o]
theorem node_iN {p : Pl} (B : PlB p) (n f : Int) : iN (p.node n f) := by
  have h1 := B.no
  have h2 := B.wi
  have h3 := B.nd
  have h4 := B.li
  unfold Pl.node
  split
  · rename_i c
    have : (n - 1) * p.width ≤ 64 * 11 := Int.mul_le_mul (by omega) (by omega) (by omega) (by omega)
    have h0 : 0 ≤ (n - 1) * p.width := Int.mul_nonneg (by omega) (by omega)
    constructor <;> omega
  · constructor <;> omega
theorem two_U {u v : Int} (h1 : U u) (h2 : U v) : ∀ w ∈ [u, v], U w := by
  intro w hw
  simp only [List.mem_cons, List.not_mem_nil, or_false] at hw
  rcases hw with rfl | rfl
  · exact h1
  · exact h2
section
variable {K : Value → Heap → Prop} {h : Heap} {M T b o N : Nat} {tv : Value} {fo : Option (Nat × Nat)} {x : Run} {R : Hp}
theorem popN (H : Sat h (RunS M T tv fo x R)) {l : Nat} (rs : List Int) {ty : TypeId} (hr : rs.length = l) (hu : ∀ v ∈ rs, U v) (hl : Nat.ble l 3 = true) (k : ∀ h', Sat h' (RunS M T tv none (x.pop rs) R) → K (.tuple #[]) h') :
    CallH Tryz.prog 44 #[mP T, .slice (some ⟨h.size, 0, none⟩) l l] (h.push (.cells (uvs rs).toArray ty)) K := rPopN H rs hr hu (Nat.le_of_ble_eq_true hl) k
end
end
section
open Mod
section
variable {K : Value → Heap → Prop} {h : Heap} {M T b o N : Nat} {tv : Value} {fo : Option (Nat × Nat)} {x : Run} {R : Hp}
theorem RunS.ret (H : Sat h (RunS M T tv fo x R)) (i : Nat) : U (x.ret i) := getD_U (RunS.B H).ret.2 i
theorem RunS.feed (H : Sat h (RunS M T tv fo x R)) (k : ∀ q R', Sat h (fdS q x.m.b x.m.used * R') → (∀ h' u, Sat h' (fdS q x.m.b u * R') → Sat h' (RunS M T tv fo { x with m := Mac.feed x.m u } R)) → K (mP q) h) :
    CallH Tryz.prog 139 #[mP M] h K := mcFeed_call H fun q R' H1 re => k q R' H1 fun h' u H2 => re h' u H2
end
end
section
set_option maxRecDepth 100000

end
section
open Mod
def Thr.setPl (t : Thr) (p s w : List Int) : Thr := { t with pred := p, succ := s, word := w }
theorem thrS_rows {h : Heap} {T : Nat} {fo : Option (Nat × Nat)} {t : Thr} {id : Int} {R : Hp} (H : Sat h (thrS T fo t id * R)) : ∃ pb sb wb, ∃ Q : Hp,
    (∀ h' P, Sat h' (Q * P) → cellAt h' ⟨T, 5, none⟩ = some (.slice (some ⟨pb, 0, none⟩) t.pred.length t.pred.length) ∧ cellAt h' ⟨T, 6, none⟩ = some (.slice (some ⟨sb, 0, none⟩) t.succ.length t.succ.length) ∧ cellAt h' ⟨T, 7, none⟩ = some (.slice (some ⟨wb, 0, none⟩) t.word.length t.word.length)) ∧
    Sat h (pt pb (.cells (uvs t.pred).toArray 65) * (pt sb (.cells (uvs t.succ).toArray 65) * (pt wb (.cells (uvs t.word).toArray 65) * (Q * R)))) ∧
    ∀ R' h' p s w, p.length = t.pred.length → s.length = t.succ.length → w.length = t.word.length → (∀ v ∈ p, U v) → (∀ v ∈ s, U v) → (∀ v ∈ w, U v) →
      Sat h' (pt pb (.cells (uvs p).toArray 65) * (pt sb (.cells (uvs s).toArray 65) * (pt wb (.cells (uvs w).toArray 65) * (Q * R')))) → Sat h' (thrS T fo (Thr.setPl t p s w) id * R') := by
  obtain ⟨B, x, H0⟩ := thrS_iff.1 H
  refine ⟨B.pred, B.succ, B.word, pt T (.cells (thrC B t id).toArray 88) * (ownS 99 12 B.fr t.fr.length B.frn (t.fr.flatMap frc) * (ownS 3 1 B.re t.retired.length B.ren (t.retired.map iv) * ownF B.fo t.found.length B.fon t.found)), fun h' P HQ => ?_, Sat.ac H0 (by ac_rfl), ?_⟩
  · have O := Sat.at (star_assoc _ _ _ ▸ HQ)
    exact ⟨cellR O rfl, cellR O rfl, cellR O rfl⟩
  · intro R' h' p s w hp hs hw up us uw H1
    obtain ⟨b1, b2, b3, b4, b5, b6, b7, b8⟩ := x.1
    refine thrS_iff.2 ⟨B, ⟨⟨b1, b2, up, us, uw, b6, b7, b8⟩, x.2⟩, ?_⟩
    unfold Thr.setPl thrC
    simp only [hp, hs, hw]
    exact Sat.ac H1 (by ac_rfl)
section
variable {K : Value → Heap → Prop} {h : Heap} {M T b o N : Nat} {tv : Value} {fo : Option (Nat × Nat)} {x : Run} {R : Hp}
theorem runRows (H : Sat h (RunS M T tv fo x R)) : ∃ pb sb wb, ∃ Q : Hp,
    (∀ h' P, Sat h' (Q * P) → cellAt h' ⟨T, 5, none⟩ = some (.slice (some ⟨pb, 0, none⟩) x.t.pred.length x.t.pred.length) ∧ cellAt h' ⟨T, 6, none⟩ = some (.slice (some ⟨sb, 0, none⟩) x.t.succ.length x.t.succ.length) ∧ cellAt h' ⟨T, 7, none⟩ = some (.slice (some ⟨wb, 0, none⟩) x.t.word.length x.t.word.length)) ∧
    Sat h (pt pb (.cells (uvs x.t.pred).toArray 65) * (pt sb (.cells (uvs x.t.succ).toArray 65) * (pt wb (.cells (uvs x.t.word).toArray 65) * (Q * (macS M tv x.m * R))))) ∧
    ∀ h' p s w, p.length = x.t.pred.length → s.length = x.t.succ.length → w.length = x.t.word.length → (∀ v ∈ p, U v) → (∀ v ∈ s, U v) → (∀ v ∈ w, U v) →
      Sat h' (pt pb (.cells (uvs p).toArray 65) * (pt sb (.cells (uvs s).toArray 65) * (pt wb (.cells (uvs w).toArray 65) * (Q * (macS M tv x.m * R))))) → Sat h' (RunS M T tv fo (x.setPl p s w) R) := by
  obtain ⟨pb, sb, wb, Q, h1, h2, h3⟩ := thrS_rows (RunS.thr H)
  exact ⟨pb, sb, wb, Q, h1, h2, fun h' p s w a1 a2 a3 a4 a5 a6 H1 => RunS.ofThr (h3 _ h' p s w a1 a2 a3 a4 a5 a6 H1)⟩
theorem uvs_cell {h : Heap} {B : Nat} {l : List Int} {t : TypeId} (e : h[B]? = some (.cells (uvs l).toArray t)) {i : Int} (h0 : 0 ≤ i) (h1 : i < l.length) : cellAt h ⟨B, i.toNat, none⟩ = some (.int .u64 (l.getD i.toNat 0)) := uvs_at e h0 h1
structure RowOk (x : Run) (r : Int) : Prop where
  r : 0 ≤ s64 r ∧ s64 r < x.t.pred.length
  e1 : x.t.succ.length = x.t.pred.length
  e2 : x.t.word.length = x.t.pred.length
  e3 : x.t.pred.length ≤ 6
end
end
section
open Mod
theorem s64_sm {n : Int} (h0 : 0 ≤ n) (h1 : n < 1000) : s64 n = n := by unfold s64; omega
section
variable {K : Value → Heap → Prop} {h : Heap} {M T b o N : Nat} {tv : Value} {fo : Option (Nat × Nat)} {x : Run} {R : Hp}
theorem RowOk.same {y : Run} {r : Int} (H : RowOk x r) (e : y.t.pred = x.t.pred ∧ y.t.succ = x.t.succ ∧ y.t.word = x.t.word) : RowOk y r := by
  obtain ⟨h1, h2, h3, h4⟩ := H
  exact ⟨by rw [e.1]; exact h1, by rw [e.1, e.2.1]; exact h2, by rw [e.1, e.2.2]; exact h3, by rw [e.1]; exact h4⟩
end
end
section
open Mod
theorem wrap32_eq (n : Int) : IntKind.wrap .u32 n = Mod.u32 n := wrap32_mod n
structure RL (x : Run) : Prop where
  e1 : x.t.succ.length = x.t.pred.length
  e2 : x.t.word.length = x.t.pred.length
  e0 : 1 ≤ x.t.pred.length
  e3 : x.t.pred.length ≤ 6
theorem plNode_s {p : Pl} (B : PlB p) {n r : Int} (hr : iN r) : p.node n (s64 (5 + r)) = p.node n (5 + r) := by
  have h2 := B.wi
  by_cases c : 5 + r < 9223372036854775808
  · congr 1; unfold iN at hr; unfold s64; omega
  · unfold iN at hr
    have e : s64 (5 + r) < 0 := by unfold s64; omega
    unfold Pl.node
    rw [if_neg (by omega), if_neg (by omega)]
section
variable {K : Value → Heap → Prop} {h : Heap} {M T b o N : Nat} {tv : Value} {fo : Option (Nat × Nat)} {x : Run} {R : Hp}
structure RowsAt (h : Heap) (T pb sb wb : Nat) (t : Thr) : Prop where
  c5 : cellAt h ⟨T, 5, Option.none⟩ = some (.slice (some ⟨pb, 0, Option.none⟩) t.pred.length t.pred.length)
  c6 : cellAt h ⟨T, 6, Option.none⟩ = some (.slice (some ⟨sb, 0, Option.none⟩) t.pred.length t.pred.length)
  c7 : cellAt h ⟨T, 7, Option.none⟩ = some (.slice (some ⟨wb, 0, Option.none⟩) t.pred.length t.pred.length)
  p : ∀ i : Nat, i < t.pred.length → cellAt h ⟨pb, i, Option.none⟩ = some (.int .u64 (t.pred.getD i 0))
  s : ∀ i : Nat, i < t.pred.length → cellAt h ⟨sb, i, Option.none⟩ = some (.int .u64 (t.succ.getD i 0))
  w : ∀ i : Nat, i < t.pred.length → cellAt h ⟨wb, i, Option.none⟩ = some (.int .u64 (t.word.getD i 0))
theorem cell_keep {h h' : Heap} {a : Addr} {v : Value} (e : cellAt h a = some v) (o : Old h.size h h') : cellAt h' a = some v := (cellAt_congr (o.2 _ (cellAt_lt e))).trans e
theorem RowsAt.old {h h' : Heap} {T pb sb wb : Nat} {t : Thr} (H : RowsAt h T pb sb wb t) (o : Old h.size h h') : RowsAt h' T pb sb wb t :=
  ⟨cell_keep H.c5 o, cell_keep H.c6 o, cell_keep H.c7 o, fun i hi => cell_keep (H.p i hi) o, fun i hi => cell_keep (H.s i hi) o, fun i hi => cell_keep (H.w i hi) o⟩
theorem ld_of {h : Heap} {a : Addr} {v : Value} (e : cellAt h a = some v) (F : Value → Prop) : ldH h a F = F v := by unfold ldH; rw [e]
theorem RowsAt.f {h : Heap} {T pb sb wb : Nat} {t : Thr} (H : RowsAt h T pb sb wb t) : (∀ F, ldH h ⟨T, 5, Option.none⟩ F = F (.slice (some ⟨pb, 0, Option.none⟩) t.pred.length t.pred.length)) ∧ (∀ F, ldH h ⟨T, 6, Option.none⟩ F = F (.slice (some ⟨sb, 0, Option.none⟩) t.pred.length t.pred.length)) ∧ (∀ F, ldH h ⟨T, 7, Option.none⟩ F = F (.slice (some ⟨wb, 0, Option.none⟩) t.pred.length t.pred.length)) ∧
    cellAt h ⟨T, 5, Option.none⟩ = some (.slice (some ⟨pb, 0, Option.none⟩) t.pred.length t.pred.length) ∧ cellAt h ⟨T, 6, Option.none⟩ = some (.slice (some ⟨sb, 0, Option.none⟩) t.pred.length t.pred.length) ∧ cellAt h ⟨T, 7, Option.none⟩ = some (.slice (some ⟨wb, 0, Option.none⟩) t.pred.length t.pred.length) :=
  ⟨ld_of H.c5, ld_of H.c6, ld_of H.c7, H.c5, H.c6, H.c7⟩
theorem RowsAt.g {h : Heap} {T pb sb wb : Nat} {t : Thr} (H : RowsAt h T pb sb wb t) {i : Nat} (hi : i < t.pred.length) : (∀ F, ldH h ⟨pb, i, Option.none⟩ F = F (.int .u64 (t.pred.getD i 0))) ∧ (∀ F, ldH h ⟨sb, i, Option.none⟩ F = F (.int .u64 (t.succ.getD i 0))) ∧ (∀ F, ldH h ⟨wb, i, Option.none⟩ F = F (.int .u64 (t.word.getD i 0))) ∧
    cellAt h ⟨pb, i, Option.none⟩ = some (.int .u64 (t.pred.getD i 0)) ∧ cellAt h ⟨sb, i, Option.none⟩ = some (.int .u64 (t.succ.getD i 0)) ∧ cellAt h ⟨wb, i, Option.none⟩ = some (.int .u64 (t.word.getD i 0)) :=
  ⟨ld_of (H.p i hi), ld_of (H.s i hi), ld_of (H.w i hi), H.p i hi, H.s i hi, H.w i hi⟩
theorem RunS.rows (H : Sat h (RunS M T tv fo x R)) (L : RL x) : ∃ pb sb wb : Nat, RowsAt h T pb sb wb x.t := by
  obtain ⟨pb, sb, wb, Q, hQ, HR, re⟩ := runRows H
  obtain ⟨c5, c6, c7⟩ := hQ h _ HR.drop.drop.drop
  have lc : ∀ {B : Nat} {l : List Int} {t : TypeId} (_ : h[B]? = some (.cells (uvs l).toArray t)) (i : Nat), i < l.length → cellAt h ⟨B, i, Option.none⟩ = some (.int .u64 (l.getD i 0)) := by
    intro B l t e i hi
    have := uvs_cell e (i := (i : Int)) (by omega) (by omega)
    rw [Int.toNat_natCast] at this
    exact this
  rw [L.e1] at c6
  rw [L.e2] at c7
  exact ⟨pb, sb, wb, c5, c6, c7, fun i hi => lc HR.at i hi, fun i hi => lc HR.drop.at i (by rw [L.e1]; exact hi), fun i hi => lc HR.drop.drop.at i (by rw [L.e2]; exact hi)⟩
theorem rLevel (H : Sat h (RunS M T tv fo x R)) (us : x.m.used < 1099511627776) {K : Value → Heap → Prop}
    {q : Nat} {R' : Hp} (HF : Sat h (fdS q x.m.b x.m.used * R')) (re : ∀ h' u, Sat h' (fdS q x.m.b u * R') → Sat h' (RunS M T tv fo { x with m := Mac.feed x.m u } R)) (hn : 1 ≤ x.m.p.c.level ∧ x.m.p.c.level ≤ 6)
    (k : ∀ h', Sat h' (RunS M T tv fo { x with m := (x.m.lvl x.m.p.c.level).2 } R) → K (.int .i64 (x.m.lvl x.m.p.c.level).1) h') :
    CallH Tryz.prog 140 #[mP q, .int .i64 x.m.p.c.level] h K := by
  refine fdLevel_call HF us hn fun h2 H2 => ?_
  have H3 := re _ _ H2
  have e : x.m.lvl x.m.p.c.level = (lev (drawn x.m.b x.m.used) x.m.p.c.level.toNat 0, Mac.feed x.m (x.m.used + 1)) := by
    unfold Mac.lvl Mac.take
    first
      | rfl
      | (rw [if_neg (by omega)]; rfl)
  rw [e] at k
  exact k h2 H3
end
end
section
open Mod
section
variable {K : Value → Heap → Prop} {h : Heap} {M T b o N : Nat} {tv : Value} {fo : Option (Nat × Nat)} {x : Run} {R : Hp}
theorem RL.at {y : Run} (H : RL x) (e : y.t.pred = x.t.pred ∧ y.t.succ = x.t.succ ∧ y.t.word = x.t.word) : RL y := by
  obtain ⟨h1, h2, h3, h4⟩ := H
  exact ⟨by rw [e.1, e.2.1]; exact h1, by rw [e.1, e.2.2]; exact h2, by rw [e.1]; exact h3, by rw [e.1]; exact h4⟩
theorem RunS.woU (H : Sat h (RunS M T tv fo x R)) (i : Nat) : U (x.t.word.getD i 0) := getD_U (RunS.B H).wo i
theorem used_add (x : Run) (a d : Int) : (x.add a d).2.m.used = x.m.used := by
  show (x.m.add a d).2.used = x.m.used
  unfold Mac.add
  dsimp only
  have := (touch_mm x.m a).2.2.2.1
  split <;> exact this
theorem ordMake_U (a b : Int) : U (ordMake a b) := by unfold ordMake u32; constructor <;> omega
theorem ordKey_u {w : Int} (h : U w) : Mod.u64 (ordKey w) = ordKey w := by
  obtain ⟨h0, h1⟩ := h
  unfold ordKey u64; omega
theorem ordKey_U {w : Int} (h : U w) : U (ordKey w) := by
  obtain ⟨h0, h1⟩ := h
  unfold ordKey; constructor <;> omega
end
end
end Go.Proofs.YtglgifgoojncpaaGreat
