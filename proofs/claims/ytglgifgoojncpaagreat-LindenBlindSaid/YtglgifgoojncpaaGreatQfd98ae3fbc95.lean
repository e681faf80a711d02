/- Part 12 of what the proofs of this seat rest on: see the last text of the claim. -/
import Derived.Test.YtglgifgoojncpaaGreatQf4d758a05e87
set_option linter.unusedSimpArgs false
set_option linter.unusedVariables false
set_option linter.ambiguousOpen false
set_option maxRecDepth 20000
namespace Go.Proofs.YtglgifgoojncpaaGreat
section
set_option maxHeartbeats 1000000
open Mod
theorem pick_ev (d : Run → Run) (ins : Int) (calls : List (List Cl)) (s : DS) (k : Int) : (s.pick d ins calls k).ev.length ≤ s.ev.length + 2 := by
  have h1 : ∀ s1, s.enter ins calls k.toNat = some s1 → s1.ev.length ≤ s.ev.length + 1 := by
    intro s1 h
    unfold DS.enter at h
    split at h
    · split at h
      · cases h
      · cases h
        simp
    · cases h
      omega
  unfold DS.pick
  cases e : s.enter ins calls k.toNat with
  | none => show s.ev.length ≤ _; omega
  | some s1 =>
    have := h1 s1 e
    show (s1.go d k.toNat).ev.length ≤ _
    unfold DS.go
    split
    · show (s1.ev ++ [_]).length ≤ _
      rw [List.length_append]
      simp only [List.length_singleton]
      omega
    · show s1.ev.length ≤ _
      omega
theorem picks_ev (d : Run → Run) (ins : Int) (calls : List (List Cl)) : ∀ (picks : List Int) (s : DS), (picks.foldl (fun s k => s.pick d ins calls k) s).ev.length ≤ s.ev.length + 2 * picks.length
  | [], s => by simp
  | k :: l, s => by
    have h1 := pick_ev d ins calls s k
    have h2 := picks_ev d ins calls l (s.pick d ins calls k)
    simp only [List.foldl_cons, List.length_cons]
    omega
theorem st4 {h : Heap} {b : Nat} {v0 v1 v2 v3 : Value} {K : Heap → Prop} (H : stN h ⟨b, 0, none⟩ 0 [v0, v1, v2, v3] K) : stH h ⟨b, 0, none⟩ v0 fun h => stH h ⟨b, 1, none⟩ v1 fun h => stH h ⟨b, 2, none⟩ v2 fun h => stH h ⟨b, 3, none⟩ v3 K := H
def play0 : Obj := .cells #[.slice none 0 0, .bool false, .bool false, .int .i64 0] 56
theorem leaf_call {K : Value → Heap → Prop} {h : Heap} {R : Hp} {A B M1 M2 : Nat} {T1 T2 : List Nat} {m1 m2 : Mac} {ea eb : Option Addr} {n ec ed : Nat} {es : List EvM} {o1 r1 o2 r2 : Bool} {z1 z2 : Int} (hn : es.length = n) (hm : m1.mm = m2.mm) (hn2 : n ≤ 1000000)
    (H : Sat h (pt A play0 * (pt B play0 * (ownS 59 8 ea n ec (es.flatMap evc) * (ownS 59 8 eb n ed (es.flatMap evc) * (machS M1 T1 m1 * (machS M2 T2 m2 * R)))))))
    (k : ∀ h', Sat h' R → K (.bool true) h') :
    stH h ⟨A, 0, none⟩ (.slice ea n ec) fun h => stH h ⟨A, 1, none⟩ (.bool o1) fun h => stH h ⟨A, 2, none⟩ (.bool r1) fun h => stH h ⟨A, 3, none⟩ (.int .i64 z1) fun h => stH h ⟨B, 0, none⟩ (.slice eb n ed) fun h => stH h ⟨B, 1, none⟩ (.bool o2) fun h => stH h ⟨B, 2, none⟩ (.bool r2) fun h => stH h ⟨B, 3, none⟩ (.int .i64 z2) fun h => blindTail K (some ⟨M1, 0, none⟩) (some ⟨M2, 0, none⟩) A B h := by
  refine st4 (stN_full (vs := playC ea n ec o1 r1 z1) H.at rfl (by simp [playC, oneC]) fun hA w => ?_)
  have HA := H.wr w.new w.old
  rw [star_left] at HA
  refine st4 (stN_full (vs := playC eb n ed o2 r2 z2) HA.at rfl (by simp [playC, oneC]) fun hB w2 => ?_)
  have HB := HA.wr w2.new w2.old
  rw [star_left] at HB
  exact tail_call hn hm hn2 HB k
section
variable {K : Value → Heap → Prop} {h : Heap} {R : Hp} {d : Run → Run} {W : Run → Prop} {ins : Int} {Inv : Nat → Mac → Prop}
theorem blind_call {f : Nat} (D : DoC f d W) (G : GoodI d W ins Inv) (hd : ∀ x : Run, d x.un = (d x).un) (hins : 0 ≤ ins ∧ ins ≤ 100) {c : Mod.Cf} (hc : okC c = true) {ca pa da : Option Addr} {cc pc dc : Nat} {calls : List (List Cl)} {picks draws : List Int}
    (hI : ∀ g, Inv 0 (macNew c draws g)) (S : ScrOk calls picks) (hcl : calls.length = c.threads.toNat) (hdl : draws.length ≤ 65536) (hdr : ∀ n ∈ draws, 0 ≤ n ∧ n < 256) (H : Sat h R)
    (hS : ∀ h' P, Sat h' (P * R) → ScrI h' ca calls.length pa picks.length da draws.length calls picks draws) (k : ∀ h', Sat h' R → K (.bool true) h') :
    CallH Tryz.prog 10 #[.agg #[.func (.func f) #[] #[], .int .i64 ins], .agg #[.int .i64 c.algo, .int .i64 c.threads, .int .i64 c.nodes, .int .i64 c.level, .int .i64 c.batch, .int .i64 c.probes, .int .i64 c.scan, .slice ca calls.length cc, .slice pa picks.length pc, .slice da draws.length dc]] h K := by
  refine call10 ?_
  unfold F10 g10 q10_13 q10_12 q10_11 q10_10 q10_9 q10_8 q10_7 q10_6 q10_5 q10_4 q10_3 q10_2 q10_1 cf ce lS
  have H1 := H.push (.cells #[.func (.func f) #[] #[], .int .i64 ins] 37)
  generalize h.push (.cells #[.func (.func f) #[] #[], .int .i64 ins] 37) = h1 at *
  generalize h.size = QB at *
  have H2 := H1.push (.cells (scrC c ca calls.length cc pa picks.length pc da draws.length dc).toArray 28)
  rw [show (.cells #[.int .i64 c.algo, .int .i64 c.threads, .int .i64 c.nodes, .int .i64 c.level, .int .i64 c.batch, .int .i64 c.probes, .int .i64 c.scan, .slice ca calls.length cc, .slice pa picks.length pc, .slice da draws.length dc] 28 : Obj) = .cells (scrC c ca calls.length cc pa picks.length pc da draws.length dc).toArray 28 from rfl]
  generalize h1.push (.cells (scrC c ca calls.length cc pa picks.length pc da draws.length dc).toArray 28) = h2 at *
  generalize h1.size = SB at *
  have P0 : (.cells #[.slice none 0 0, .bool false, .bool false, .int .i64 0] 56 : Obj) = play0 := rfl
  rw [P0]
  simp only [add_lit, Nat.zero_add]
  generalize hFR : pt SB (.cells (scrC c ca calls.length cc pa picks.length pc da draws.length dc).toArray 28) * (pt QB (.cells #[.func (.func f) #[] #[], .int .i64 ins] 37) * R) = FR at H2
  have sc : ∀ {h' : Heap}, Sat h' FR → h'[SB]? = some (.cells (scrC c ca calls.length cc pa picks.length pc da draws.length dc).toArray 28) ∧ h'[QB]? = some (.cells [.func (.func f) #[] #[], .int .i64 ins].toArray 37) ∧ ScrI h' ca calls.length pa picks.length da draws.length calls picks draws ∧ Sat h' R := by
    intro h' H'
    subst hFR
    refine ⟨H'.at, H'.drop.at, hS h' emp ?_, H'.drop.drop⟩
    rw [emp_star]
    exact H'.drop.drop
  obtain ⟨oS, oQ, _, _⟩ := sc H2
  refine ldR oS rfl (ldR oS rfl (ldR oS rfl (ldR oS rfl (ldR oS rfl (ldR oS rfl (ldR oS rfl (ldR oS rfl ?_)))))))
  simp only [asSlice_slice]
  refine callV_fn (coreNew_call (c := c) (bs := draws) H2 (fun h' P H' => (sc H'.drop).2.2.1.dr) hdl hdr (fun hh => by rw [hc] at hh; cases hh) fun _ h12 M1 T1 H12 => ?_)
  simp only [asTup_tuple]
  refine elem20' ?_
  simp only [asPtrO_ptr, asTup_tuple]
  refine elem21' ?_
  simp only [asInt_int, Option.isNone_some, ifB_false]
  obtain ⟨oS, oQ, _, _⟩ := sc H12.drop
  refine ldR oS rfl (ldR oS rfl (ldR oS rfl (ldR oS rfl (ldR oS rfl (ldR oS rfl (ldR oS rfl (ldR oS rfl ?_)))))))
  simp only [asSlice_slice]
  refine callV_fn (coreNew_call (c := c) (bs := draws) H12 (fun h' P H' => (sc H'.drop.drop).2.2.1.dr) hdl hdr (fun hh => by rw [hc] at hh; cases hh) fun _ h31 M2 T2 H31 => ?_)
  simp only [asTup_tuple]
  refine elem20' ?_
  simp only [asPtrO_ptr, asTup_tuple]
  refine elem21' ?_
  simp only [asInt_int]
  obtain ⟨oS, oQ, _, _⟩ := sc H31.drop.drop
  refine ldR oQ rfl (ldR oQ rfl ?_)
  refine ldR oS rfl (ldR oS rfl (ldR oS rfl (ldR oS rfl (ldR oS rfl (ldR oS rfl (ldR oS rfl (ldR oS rfl (ldR oS rfl (ldR oS rfl ?_)))))))))
  refine ldR oQ rfl (ldR oQ rfl ?_)
  refine ldR oS rfl (ldR oS rfl (ldR oS rfl (ldR oS rfl (ldR oS rfl (ldR oS rfl (ldR oS rfl (ldR oS rfl (ldR oS rfl (ldR oS rfl ?_)))))))))
  clear H1 H2 H12
  -- both runs
  obtain ⟨_, _, ⟨l1, _⟩, _⟩ := machS_iff.1 H31.drop
  obtain ⟨_, _, ⟨l2, _⟩, _⟩ := machS_iff.1 H31
  have ht : ∀ g, (macNew c draws g).th.length = calls.length := by
    intro g
    show (List.replicate c.threads.toNat (thr0 c)).length = _
    rw [List.length_replicate, hcl]
  obtain ⟨ee, em⟩ := drive_un hd ins calls c draws picks
  have hev : (driveM d ins calls (macNew c draws true) picks).ev.length ≤ 1000000 := by
    have h1 := picks_ev d ins calls picks ⟨macNew c draws true, List.replicate calls.length 0, List.replicate calls.length cl0, []⟩
    have h2 := S.pk.1
    have h1 : (driveM d ins calls (macNew c draws true) picks).ev.length ≤ 0 + 2 * picks.length := h1
    omega
  have dA : ∀ {hh : Heap} {X : Hp} {F : Value → Heap → Prop}, Sat hh (machS M1 T1 (macNew c draws true) * (X * FR)) → (∀ h' ea ec o r bz, Sat h' (ownS 59 8 ea (driveM d ins calls (macNew c draws true) picks).ev.length ec ((driveM d ins calls (macNew c draws true) picks).ev.flatMap evc) * (machS M1 T1 (driveM d ins calls (macNew c draws true) picks).m * (X * FR))) → F (.agg #[.slice ea (driveM d ins calls (macNew c draws true) picks).ev.length ec, .bool o, .bool r, .int .i64 bz]) h') →
      CallH Tryz.prog 23 #[.agg #[.func (.func f) #[] #[], .int .i64 ins], mP M1, .agg #[.int .i64 c.algo, .int .i64 c.threads, .int .i64 c.nodes, .int .i64 c.level, .int .i64 c.batch, .int .i64 c.probes, .int .i64 c.scan, .slice ca calls.length cc, .slice pa picks.length pc, .slice da draws.length dc]] hh F :=
    fun HX kk => drive_call D G S hins HX (by rw [l1, ht]) (ht _) (hI true) (fun h' P H' => (sc H'.drop.drop).2.2.1.f) kk
  have dB : ∀ {hh : Heap} {X : Hp} {F : Value → Heap → Prop}, Sat hh (machS M2 T2 (macNew c draws false) * (X * FR)) → (∀ h' ea ec o r bz, Sat h' (ownS 59 8 ea (driveM d ins calls (macNew c draws true) picks).ev.length ec ((driveM d ins calls (macNew c draws true) picks).ev.flatMap evc) * (machS M2 T2 (driveM d ins calls (macNew c draws false) picks).m * (X * FR))) → F (.agg #[.slice ea (driveM d ins calls (macNew c draws true) picks).ev.length ec, .bool o, .bool r, .int .i64 bz]) h') →
      CallH Tryz.prog 23 #[.agg #[.func (.func f) #[] #[], .int .i64 ins], mP M2, .agg #[.int .i64 c.algo, .int .i64 c.threads, .int .i64 c.nodes, .int .i64 c.level, .int .i64 c.batch, .int .i64 c.probes, .int .i64 c.scan, .slice ca calls.length cc, .slice pa picks.length pc, .slice da draws.length dc]] hh F := by
    intro hh X F HX kk
    rw [ee] at kk
    exact drive_call D G S hins HX (by rw [l2, ht]) (ht _) (hI false) (fun h' P H' => (sc H'.drop.drop).2.2.1.f) kk
  clear H
  generalize driveM d ins calls (macNew c draws true) picks = sA at *
  generalize driveM d ins calls (macNew c draws false) picks = sB at *
  generalize hes : sA.ev = es at *
  generalize hne : es.length = n at *
  generalize macNew c draws true = mA at *
  generalize macNew c draws false = mB at *
  have fin : ∀ {h' : Heap}, Sat h' FR → K (.bool true) h' := fun H' => k _ (sc H').2.2.2
  have HA31 : Sat h31 (machS M1 T1 mA * (machS M2 T2 mB * FR)) := Sat.ac H31 (by ac_rfl)
  clear H31
  have e4 : ∀ {v0 v1 v2 v3 : Value} {F : Value → Value → Value → Value → Prop}, F v0 v1 v2 v3 → asAgg (.agg #[v0, v1, v2, v3]) fun vs => sizeH vs 4 (elemH vs 0 fun a => elemH vs 1 fun b => elemH vs 2 fun c => elemH vs 3 fun d => F a b c d) := fun k => k
  refine ⟨?_, ?_, ?_⟩
  -- the first run at once
  · refine callV_fn (dA HA31 fun h63 ea ec o1 r1 z1 H63 => ?_)
    refine e4 ?_
    have HB63 : Sat h63 (machS M2 T2 mB * ((ownS 59 8 ea n ec (es.flatMap evc) * machS M1 T1 sA.m) * FR)) := Sat.ac H63 (by ac_rfl)
    obtain ⟨oS, oQ, _, _⟩ := sc HB63.drop.drop
    (repeat (first | refine ⟨cellR oS rfl, ?_⟩ | refine ⟨cellR oQ rfl, ?_⟩))
    refine ⟨?_, ?_, ?_⟩
    · refine callV_fn (dB HB63 fun h70 eb ed o2 r2 z2 H70 => ?_)
      refine e4 ?_
      have H71 := H70.push play0
      generalize h70.push play0 = h71 at *
      generalize h70.size = A at *
      have H72 := H71.push play0
      have oS1 := (sc H71.drop.drop.drop.drop).1
      have oQ1 := (sc H71.drop.drop.drop.drop).2.1
      have oS2 := (sc H72.drop.drop.drop.drop.drop).1
      have oQ2 := (sc H72.drop.drop.drop.drop.drop).2.1
      generalize h71.push play0 = h72 at *
      generalize h71.size = B at *
      refine ⟨?_, ?_⟩
      · (repeat (first | refine ⟨cellR oS1 rfl, ?_⟩ | refine ⟨cellR oQ1 rfl, ?_⟩ | refine ⟨cellR oS2 rfl, ?_⟩ | refine ⟨cellR oQ2 rfl, ?_⟩))
        exact leaf_call hne em hev (Sat.ac H72 (by ac_rfl)) fun h' H' => fin H'
      · (repeat (first | refine ⟨cellR oS1 rfl, ?_⟩ | refine ⟨cellR oQ1 rfl, ?_⟩ | refine ⟨cellR oS2 rfl, ?_⟩ | refine ⟨cellR oQ2 rfl, ?_⟩))
        exact leaf_call hne em hev (Sat.ac H72 (by ac_rfl)) fun h' H' => fin H'
    · have H64 := HB63.push play0
      have oS1 := (sc H64.drop.drop.drop).1
      have oQ1 := (sc H64.drop.drop.drop).2.1
      generalize h63.push play0 = h64 at *
      generalize h63.size = A at *
      (repeat (first | refine ⟨cellR oS1 rfl, ?_⟩ | refine ⟨cellR oQ1 rfl, ?_⟩))
      refine ⟨?_, ?_⟩
      · have HB64 : Sat h64 (machS M2 T2 mB * ((pt A play0 * (ownS 59 8 ea n ec (es.flatMap evc) * machS M1 T1 sA.m)) * FR)) := Sat.ac H64 (by ac_rfl)
        refine callV_fn (dB HB64 fun h65 eb ed o2 r2 z2 H65 => ?_)
        refine e4 ?_
        have H66 := H65.push play0
        have oS1 := (sc H66.drop.drop.drop.drop).1
        have oQ1 := (sc H66.drop.drop.drop.drop).2.1
        generalize h65.push play0 = h66 at *
        generalize h65.size = B at *
        (repeat (first | refine ⟨cellR oS1 rfl, ?_⟩ | refine ⟨cellR oQ1 rfl, ?_⟩))
        exact leaf_call hne em hev (Sat.ac H66 (by ac_rfl)) fun h' H' => fin H'
      · have H65 := H64.push play0
        have oS1 := (sc H65.drop.drop.drop.drop).1
        have oQ1 := (sc H65.drop.drop.drop.drop).2.1
        generalize h64.push play0 = h65 at *
        generalize h64.size = B at *
        (repeat (first | refine ⟨cellR oS1 rfl, ?_⟩ | refine ⟨cellR oQ1 rfl, ?_⟩))
        have HB65 : Sat h65 (machS M2 T2 mB * ((pt B play0 * (pt A play0 * (ownS 59 8 ea n ec (es.flatMap evc) * machS M1 T1 sA.m))) * FR)) := Sat.ac H65 (by ac_rfl)
        refine callV_fn (dB HB65 fun h66 eb ed o2 r2 z2 H66 => ?_)
        refine e4 ?_
        exact leaf_call hne em hev (Sat.ac H66 (by ac_rfl)) fun h' H' => fin H'
    · have H64 := HB63.push play0
      have oS1 := (sc H64.drop.drop.drop).1
      have oQ1 := (sc H64.drop.drop.drop).2.1
      generalize h63.push play0 = h64 at *
      generalize h63.size = A at *
      (repeat (first | refine ⟨cellR oS1 rfl, ?_⟩ | refine ⟨cellR oQ1 rfl, ?_⟩))
      refine ⟨?_, ?_⟩
      · have HB64 : Sat h64 (machS M2 T2 mB * ((pt A play0 * (ownS 59 8 ea n ec (es.flatMap evc) * machS M1 T1 sA.m)) * FR)) := Sat.ac H64 (by ac_rfl)
        refine callV_fn (dB HB64 fun h65 eb ed o2 r2 z2 H65 => ?_)
        refine e4 ?_
        have H66 := H65.push play0
        have oS1 := (sc H66.drop.drop.drop.drop).1
        have oQ1 := (sc H66.drop.drop.drop.drop).2.1
        generalize h65.push play0 = h66 at *
        generalize h65.size = B at *
        (repeat (first | refine ⟨cellR oS1 rfl, ?_⟩ | refine ⟨cellR oQ1 rfl, ?_⟩))
        exact leaf_call hne em hev (Sat.ac H66 (by ac_rfl)) fun h' H' => fin H'
      · have H65 := H64.push play0
        have oS1 := (sc H65.drop.drop.drop.drop).1
        have oQ1 := (sc H65.drop.drop.drop.drop).2.1
        generalize h64.push play0 = h65 at *
        generalize h64.size = B at *
        (repeat (first | refine ⟨cellR oS1 rfl, ?_⟩ | refine ⟨cellR oQ1 rfl, ?_⟩))
        have HB65 : Sat h65 (machS M2 T2 mB * ((pt B play0 * (pt A play0 * (ownS 59 8 ea n ec (es.flatMap evc) * machS M1 T1 sA.m))) * FR)) := Sat.ac H65 (by ac_rfl)
        refine callV_fn (dB HB65 fun h66 eb ed o2 r2 z2 H66 => ?_)
        refine e4 ?_
        exact leaf_call hne em hev (Sat.ac H66 (by ac_rfl)) fun h' H' => fin H'
  · have H32 := HA31.push play0
    have oS1 := (sc H32.drop.drop.drop).1
    have oQ1 := (sc H32.drop.drop.drop).2.1
    generalize h31.push play0 = h32 at *
    generalize h31.size = A at *
    (repeat (first | refine ⟨cellR oS1 rfl, ?_⟩ | refine ⟨cellR oQ1 rfl, ?_⟩))
    refine ⟨?_, ?_⟩
    · have HA32 : Sat h32 (machS M1 T1 mA * ((pt A play0 * machS M2 T2 mB) * FR)) := Sat.ac H32 (by ac_rfl)
      refine callV_fn (dA HA32 fun h33 ea ec o1 r1 z1 H33 => ?_)
      refine e4 ?_
      have HB33 : Sat h33 (machS M2 T2 mB * ((pt A play0 * (ownS 59 8 ea n ec (es.flatMap evc) * machS M1 T1 sA.m)) * FR)) := Sat.ac H33 (by ac_rfl)
      have oS1 := (sc HB33.drop.drop).1
      have oQ1 := (sc HB33.drop.drop).2.1
      (repeat (first | refine ⟨cellR oS1 rfl, ?_⟩ | refine ⟨cellR oQ1 rfl, ?_⟩))
      refine ⟨?_, ?_⟩
      · refine callV_fn (dB HB33 fun h34 eb ed o2 r2 z2 H34 => ?_)
        refine e4 ?_
        have H35 := H34.push play0
        have oS1 := (sc H35.drop.drop.drop.drop).1
        have oQ1 := (sc H35.drop.drop.drop.drop).2.1
        generalize h34.push play0 = h35 at *
        generalize h34.size = B at *
        (repeat (first | refine ⟨cellR oS1 rfl, ?_⟩ | refine ⟨cellR oQ1 rfl, ?_⟩))
        exact leaf_call hne em hev (Sat.ac H35 (by ac_rfl)) fun h' H' => fin H'
      · have H34 := HB33.push play0
        have oS1 := (sc H34.drop.drop.drop).1
        have oQ1 := (sc H34.drop.drop.drop).2.1
        generalize h33.push play0 = h34 at *
        generalize h33.size = B at *
        (repeat (first | refine ⟨cellR oS1 rfl, ?_⟩ | refine ⟨cellR oQ1 rfl, ?_⟩))
        have HB34 : Sat h34 (machS M2 T2 mB * ((pt B play0 * (pt A play0 * (ownS 59 8 ea n ec (es.flatMap evc) * machS M1 T1 sA.m))) * FR)) := Sat.ac H34 (by ac_rfl)
        refine callV_fn (dB HB34 fun h35 eb ed o2 r2 z2 H35 => ?_)
        refine e4 ?_
        exact leaf_call hne em hev (Sat.ac H35 (by ac_rfl)) fun h' H' => fin H'
    · have H33 := H32.push play0
      have oS1 := (sc H33.drop.drop.drop.drop).1
      have oQ1 := (sc H33.drop.drop.drop.drop).2.1
      generalize h32.push play0 = h33 at *
      generalize h32.size = B at *
      (repeat (first | refine ⟨cellR oS1 rfl, ?_⟩ | refine ⟨cellR oQ1 rfl, ?_⟩))
      have HA33 : Sat h33 (machS M1 T1 mA * ((pt B play0 * (pt A play0 * machS M2 T2 mB)) * FR)) := Sat.ac H33 (by ac_rfl)
      refine callV_fn (dA HA33 fun h34 ea ec o1 r1 z1 H34 => ?_)
      refine e4 ?_
      have HB34 : Sat h34 (machS M2 T2 mB * ((pt B play0 * (pt A play0 * (ownS 59 8 ea n ec (es.flatMap evc) * machS M1 T1 sA.m))) * FR)) := Sat.ac H34 (by ac_rfl)
      have oS1 := (sc HB34.drop.drop).1
      have oQ1 := (sc HB34.drop.drop).2.1
      (repeat (first | refine ⟨cellR oS1 rfl, ?_⟩ | refine ⟨cellR oQ1 rfl, ?_⟩))
      refine callV_fn (dB HB34 fun h35 eb ed o2 r2 z2 H35 => ?_)
      refine e4 ?_
      exact leaf_call hne em hev (Sat.ac H35 (by ac_rfl)) fun h' H' => fin H'
  · have H32 := HA31.push play0
    have oS1 := (sc H32.drop.drop.drop).1
    have oQ1 := (sc H32.drop.drop.drop).2.1
    generalize h31.push play0 = h32 at *
    generalize h31.size = A at *
    (repeat (first | refine ⟨cellR oS1 rfl, ?_⟩ | refine ⟨cellR oQ1 rfl, ?_⟩))
    refine ⟨?_, ?_⟩
    · have HA32 : Sat h32 (machS M1 T1 mA * ((pt A play0 * machS M2 T2 mB) * FR)) := Sat.ac H32 (by ac_rfl)
      refine callV_fn (dA HA32 fun h33 ea ec o1 r1 z1 H33 => ?_)
      refine e4 ?_
      have HB33 : Sat h33 (machS M2 T2 mB * ((pt A play0 * (ownS 59 8 ea n ec (es.flatMap evc) * machS M1 T1 sA.m)) * FR)) := Sat.ac H33 (by ac_rfl)
      have oS1 := (sc HB33.drop.drop).1
      have oQ1 := (sc HB33.drop.drop).2.1
      (repeat (first | refine ⟨cellR oS1 rfl, ?_⟩ | refine ⟨cellR oQ1 rfl, ?_⟩))
      refine ⟨?_, ?_⟩
      · refine callV_fn (dB HB33 fun h34 eb ed o2 r2 z2 H34 => ?_)
        refine e4 ?_
        have H35 := H34.push play0
        have oS1 := (sc H35.drop.drop.drop.drop).1
        have oQ1 := (sc H35.drop.drop.drop.drop).2.1
        generalize h34.push play0 = h35 at *
        generalize h34.size = B at *
        (repeat (first | refine ⟨cellR oS1 rfl, ?_⟩ | refine ⟨cellR oQ1 rfl, ?_⟩))
        exact leaf_call hne em hev (Sat.ac H35 (by ac_rfl)) fun h' H' => fin H'
      · have H34 := HB33.push play0
        have oS1 := (sc H34.drop.drop.drop).1
        have oQ1 := (sc H34.drop.drop.drop).2.1
        generalize h33.push play0 = h34 at *
        generalize h33.size = B at *
        (repeat (first | refine ⟨cellR oS1 rfl, ?_⟩ | refine ⟨cellR oQ1 rfl, ?_⟩))
        have HB34 : Sat h34 (machS M2 T2 mB * ((pt B play0 * (pt A play0 * (ownS 59 8 ea n ec (es.flatMap evc) * machS M1 T1 sA.m))) * FR)) := Sat.ac H34 (by ac_rfl)
        refine callV_fn (dB HB34 fun h35 eb ed o2 r2 z2 H35 => ?_)
        refine e4 ?_
        exact leaf_call hne em hev (Sat.ac H35 (by ac_rfl)) fun h' H' => fin H'
    · have H33 := H32.push play0
      have oS1 := (sc H33.drop.drop.drop.drop).1
      have oQ1 := (sc H33.drop.drop.drop.drop).2.1
      generalize h32.push play0 = h33 at *
      generalize h32.size = B at *
      (repeat (first | refine ⟨cellR oS1 rfl, ?_⟩ | refine ⟨cellR oQ1 rfl, ?_⟩))
      have HA33 : Sat h33 (machS M1 T1 mA * ((pt B play0 * (pt A play0 * machS M2 T2 mB)) * FR)) := Sat.ac H33 (by ac_rfl)
      refine callV_fn (dA HA33 fun h34 ea ec o1 r1 z1 H34 => ?_)
      refine e4 ?_
      have HB34 : Sat h34 (machS M2 T2 mB * ((pt B play0 * (pt A play0 * (ownS 59 8 ea n ec (es.flatMap evc) * machS M1 T1 sA.m))) * FR)) := Sat.ac H34 (by ac_rfl)
      have oS1 := (sc HB34.drop.drop).1
      have oQ1 := (sc HB34.drop.drop).2.1
      (repeat (first | refine ⟨cellR oS1 rfl, ?_⟩ | refine ⟨cellR oQ1 rfl, ?_⟩))
      refine callV_fn (dB HB34 fun h35 eb ed o2 r2 z2 H35 => ?_)
      refine e4 ?_
      exact leaf_call hne em hev (Sat.ac H35 (by ac_rfl)) fun h' H' => fin H'
end
end
end Go.Proofs.YtglgifgoojncpaaGreat
section
namespace Go.Proofs.YtglgifgoojncpaaGreat.Mod
inductive Lo : Run → Run → Prop
  | refl (x : Run) : Lo x x
  | load {x y : Run} {a : Int} (h : Lo x y) : Lo x (y.load a).2
  | store {x y : Run} {a v : Int} (h : Lo x y) : Lo x (y.store a v)
  | cas {x y : Run} {a o v : Int} (h : Lo x y) : Lo x (y.cas a o v).2
  | add {x y : Run} {a v : Int} (h : Lo x y) : Lo x (y.add a v).2
  | swing {x y : Run} {a w p : Int} {b : Bool} (h : Lo x y) : Lo x (y.swing a w p b).2
  | swingA {x y : Run} {a w p : Int} (h : Lo x y) : Lo x (y.swingA a w p).2
  | swingM {x y : Run} {a w p : Int} {b : Bool} (h : Lo x y) : Lo x (y.swingM a w p b).2
  | drop1 {x y : Run} {a : Int} (h : Lo x y) : Lo x (y.drop1 a).2
  | guard {x y : Run} {a b : Int} (h : Lo x y) : Lo x (y.guard a b)
  | gh {x y : Run} {f : Gh → Gh} (h : Lo x y) : Lo x (y.gh f)
  | s {x y : Run} {i : Nat} {v : Int} (h : Lo x y) : Lo x (y.s i v)
  | pc {x y : Run} {i : Int} (h : Lo x y) : Lo x (y.pc i)
  | fo {x y : Run} {l : List Int} (h : Lo x y) : Lo x (y.fo l)
  | re {x y : Run} {l : List Int} (h : Lo x y) : Lo x (y.re l)
  | setPl {x y : Run} {p s w : List Int} (h : Lo x y) : Lo x (y.setPl p s w)
  | next {x y : Run} {k : Int} (h : Lo x y) : Lo x { y with m := (y.m.next k).2 }
  | lvl {x y : Run} {k : Int} (h : Lo x y) : Lo x { y with m := (y.m.lvl k).2 }
  | dcas {x y : Run} {a o v b p q : Int} (h : Lo x y) : Lo x { y with m := (y.m.dcas a o v b p q).2 }
  | dcss {x y : Run} {a o v b p : Int} (h : Lo x y) : Lo x { y with m := (y.m.dcss a o v b p).2 }
inductive Tch : Run → Prop
  | load {y : Run} {a : Int} : Tch (y.load a).2
  | store {y : Run} {a v : Int} : Tch (y.store a v)
  | cas {y : Run} {a o v : Int} : Tch (y.cas a o v).2
  | add {y : Run} {a v : Int} : Tch (y.add a v).2
  | swing {y : Run} {a w p : Int} {b : Bool} : Tch (y.swing a w p b).2
  | swingA {y : Run} {a w p : Int} : Tch (y.swingA a w p).2
  | swingM {y : Run} {a w p : Int} {b : Bool} : Tch (y.swingM a w p b).2
  | drop1 {y : Run} {a : Int} : Tch (y.drop1 a).2
  | guard {y : Run} {a b : Int} : Tch (y.guard a b)
  | dcas {y : Run} {a o v b p q : Int} : Tch { y with m := (y.m.dcas a o v b p q).2 }
  | dcss {y : Run} {a o v b p : Int} : Tch { y with m := (y.m.dcss a o v b p).2 }
  | s {y : Run} {i : Nat} {v : Int} (h : Tch y) : Tch (y.s i v)
  | pc {y : Run} {i : Int} (h : Tch y) : Tch (y.pc i)
  | gh {y : Run} {f : Gh → Gh} (h : Tch y) : Tch (y.gh f)
  | fo {y : Run} {l : List Int} (h : Tch y) : Tch (y.fo l)
  | re {y : Run} {l : List Int} (h : Tch y) : Tch (y.re l)
  | setPl {y : Run} {p s w : List Int} (h : Tch y) : Tch (y.setPl p s w)
  | next {y : Run} {k : Int} (h : Tch y) : Tch { y with m := (y.m.next k).2 }
  | lvl {y : Run} {k : Int} (h : Tch y) : Tch { y with m := (y.m.lvl k).2 }
  | push {y : Run} {i : Int} {r : List Int} (h : Tch y) : Tch (y.push i r)
  | pop {y : Run} {r : List Int} (h : Tch y) : Tch (y.pop r)
  | call {y : Run} {i j : Int} {r : List Int} (h : Tch y) : Tch (y.call i j r)
  | fin {y : Run} {i j k : Int} (h : Tch y) : Tch (y.fin i j k)
inductive St : Nat → Run → Run → Prop
  | refl {n : Nat} (x : Run) : St n x x
  | load {n : Nat} {x y : Run} {a : Int} (h : St n x y) : St (n + 1) x (y.load a).2
  | store {n : Nat} {x y : Run} {a v : Int} (h : St n x y) : St (n + 1) x (y.store a v)
  | cas {n : Nat} {x y : Run} {a o v : Int} (h : St n x y) : St (n + 1) x (y.cas a o v).2
  | add {n : Nat} {x y : Run} {a v : Int} (h : St n x y) : St (n + 1) x (y.add a v).2
  | dcas {n : Nat} {x y : Run} {a o v b p q : Int} (h : St n x y) : St (n + 1) x { y with m := (y.m.dcas a o v b p q).2 }
  | dcss {n : Nat} {x y : Run} {a o v b p : Int} (h : St n x y) : St (n + 1) x { y with m := (y.m.dcss a o v b p).2 }
  | next {n : Nat} {x y : Run} {k : Int} (h : St n x y) : St (n + 1) x { y with m := (y.m.next k).2 }
  | lvl {n : Nat} {x y : Run} {k : Int} (h : St n x y) : St (n + 1) x { y with m := (y.m.lvl k).2 }
  | gh {n : Nat} {x y : Run} {f : Gh → Gh} (h : St n x y) : St n x (y.gh f)
  | s {n : Nat} {x y : Run} {i : Nat} {v : Int} (h : St n x y) : St (n + 1) x (y.s i v)
  | pc {n : Nat} {x y : Run} {i : Int} (h : St n x y) : St (n + 1) x (y.pc i)
  | push {n : Nat} {x y : Run} {i : Int} {r : List Int} (h : St n x y) : St (n + 1) x (y.push i r)
  | pop {n : Nat} {x y : Run} {r : List Int} (h : St n x y) : St n x (y.pop r)
  | fo {n : Nat} {x y : Run} {l : List Int} (hl : l.length ≤ y.t.found.length + 1) (h : St n x y) : St (n + 1) x (y.fo l)
  | re {n : Nat} {x y : Run} {l : List Int} (hl : l.length ≤ y.t.retired.length + 1) (h : St n x y) : St (n + 1) x (y.re l)
  | part {n : Nat} {x y : Run} {p : Int → Bool} (h : St n x y) : St (n + 1) x ((y.re (y.t.retired.filter p)).fo (y.t.retired.filter fun n => !p n))
  | setPl {n : Nat} {x y : Run} {p s w : List Int} (h1 : p.length = y.t.pred.length) (h2 : s.length = y.t.succ.length) (h3 : w.length = y.t.word.length) (h : St n x y) : St n x (y.setPl p s w)
  | up {n k : Nat} {x y : Run} (h : St n x y) : St (n + k) x y
section
variable {x y : Run} {n : Nat}
theorem St.swing {a w p : Int} {b : Bool} (h : St n x y) : St (n + 1) x (y.swing a w p b).2 := St.cas h
theorem St.swingA {a w p : Int} (h : St n x y) : St (n + 1) x (y.swingA a w p).2 := St.cas h
theorem St.swingM {a w p : Int} {b : Bool} (h : St n x y) : St (n + 1) x (y.swingM a w p b).2 := St.cas h
theorem St.drop1 {a : Int} (h : St n x y) : St (n + 1) x (y.drop1 a).2 := St.add h
theorem St.guard {a b : Int} (h : St n x y) : St (n + 1) x (y.guard a b) := St.store h
theorem St.call {i j : Int} {r : List Int} (h : St n x y) : St (n + 2) x (y.call i j r) := St.push (St.pc h)
theorem St.fin {i j k : Int} (h : St n x y) : St (n + 5) x (y.fin i j k) := St.call (St.s (St.s (St.s h)))
end
structure Fix (x y : Run) : Prop where
  p : y.m.p = x.m.p
  id : y.id = x.id
  th : y.m.th = x.m.th
  b : y.m.b = x.m.b
  w : y.m.mm.w.length = x.m.mm.w.length
  pr : y.t.pred.length = x.t.pred.length
  su : y.t.succ.length = x.t.succ.length
  wo : y.t.word.length = x.t.word.length
structure FixM (m n : Mac) : Prop where
  p : n.p = m.p
  th : n.th = m.th
  b : n.b = m.b
  w : n.mm.w.length = m.mm.w.length
  st : n.mm.st ≤ m.mm.st + 1
  us : n.used ≤ m.used + 1
theorem FixM.touch (m : Mac) (a : Int) : FixM m (m.touch a) ∧ (m.touch a).mm = m.mm ∧ (m.touch a).used = m.used := by
  unfold Mac.touch
  split <;> exact ⟨⟨rfl, rfl, rfl, rfl, by show m.mm.st ≤ _; omega, by show m.used ≤ _; omega⟩, rfl, rfl⟩
theorem FixM.of {m n k : Mac} (h : FixM m n) (hn : n.mm = m.mm ∧ n.used = m.used) (e : k.p = n.p ∧ k.th = n.th ∧ k.b = n.b ∧ k.used = n.used) (ew : k.mm.w.length = n.mm.w.length) (es : k.mm.st ≤ n.mm.st + 1) : FixM m k :=
  ⟨e.1.trans h.p, e.2.1.trans h.th, e.2.2.1.trans h.b, ew.trans h.w, by rw [← hn.1]; exact es, by rw [e.2.2.2, hn.2]; omega⟩
theorem FixM.load (m : Mac) (a : Int) : FixM m (m.load a).2 := by
  have t := FixM.touch m a
  unfold Mac.load; dsimp only
  split
  · exact t.1.of t.2 ⟨rfl, rfl, rfl, rfl⟩ rfl (Int.le_refl _)
  · exact t.1.of t.2 ⟨rfl, rfl, rfl, rfl⟩ rfl (by show (m.touch a).mm.st ≤ _; omega)
theorem FixM.store (m : Mac) (a v : Int) : FixM m (m.store a v) := by
  have t := FixM.touch m a
  unfold Mac.store; dsimp only
  split
  · exact t.1.of t.2 ⟨rfl, rfl, rfl, rfl⟩ (by show (List.set _ _ _).length = _; rw [List.length_set]; rfl) (Int.le_refl _)
  · exact t.1.of t.2 ⟨rfl, rfl, rfl, rfl⟩ rfl (by show (m.touch a).mm.st ≤ _; omega)
theorem FixM.add (m : Mac) (a v : Int) : FixM m (m.add a v).2 := by
  have t := FixM.touch m a
  unfold Mac.add; dsimp only
  split
  · exact t.1.of t.2 ⟨rfl, rfl, rfl, rfl⟩ (by show (List.set _ _ _).length = _; rw [List.length_set]; rfl) (Int.le_refl _)
  · exact t.1.of t.2 ⟨rfl, rfl, rfl, rfl⟩ rfl (by show (m.touch a).mm.st ≤ _; omega)
theorem mm_cas (m : Mm) (a o n : Int) : (m.cas a o n).st = m.st + 1 ∧ (m.cas a o n).w.length = m.w.length := by unfold Mm.cas; split <;> exact ⟨rfl, by simp [Mm.tick, Mm.put]⟩
theorem mm_dcas (m : Mm) (a o n b p q : Int) : (m.dcas a o n b p q).st = m.st + 1 ∧ (m.dcas a o n b p q).w.length = m.w.length := by unfold Mm.dcas; split <;> exact ⟨rfl, by simp [Mm.tick, Mm.put]⟩
theorem mm_dcss (m : Mm) (a o n b p : Int) : (m.dcss a o n b p).st = m.st + 1 ∧ (m.dcss a o n b p).w.length = m.w.length := by unfold Mm.dcss; split <;> exact ⟨rfl, by simp [Mm.tick, Mm.put]⟩
theorem FixM.cas (m : Mac) (a o n : Int) : FixM m (m.cas a o n).2 := by
  have t := FixM.touch m a
  have h := mm_cas (m.touch a).mm a o n
  unfold Mac.cas; dsimp only
  split
  · exact t.1.of t.2 ⟨rfl, rfl, rfl, rfl⟩ h.2 (by show ((m.touch a).mm.cas a o n).st ≤ _; omega)
  · exact t.1.of t.2 ⟨rfl, rfl, rfl, rfl⟩ rfl (by show (m.touch a).mm.st ≤ _; omega)
theorem FixM.touch2 (m : Mac) (a b : Int) : FixM m ((m.touch a).touch b) ∧ ((m.touch a).touch b).mm = m.mm ∧ ((m.touch a).touch b).used = m.used := by
  have t := FixM.touch m a
  have t2 := FixM.touch (m.touch a) b
  have e1 := t2.2.1.trans t.2.1
  have e2 := t2.2.2.trans t.2.2
  exact ⟨⟨t2.1.p.trans t.1.p, t2.1.th.trans t.1.th, t2.1.b.trans t.1.b, t2.1.w.trans t.1.w, by rw [e1]; omega, by rw [e2]; omega⟩, e1, e2⟩
theorem FixM.dcas (m : Mac) (a o n b p q : Int) : FixM m (m.dcas a o n b p q).2 := by
  have t := FixM.touch2 m a b
  have h := mm_dcas ((m.touch a).touch b).mm a o n b p q
  unfold Mac.dcas; dsimp only
  split
  · exact t.1.of t.2 ⟨rfl, rfl, rfl, rfl⟩ h.2 (by show (((m.touch a).touch b).mm.dcas a o n b p q).st ≤ _; omega)
  · exact t.1.of t.2 ⟨rfl, rfl, rfl, rfl⟩ rfl (by show ((m.touch a).touch b).mm.st ≤ _; omega)
theorem FixM.dcss (m : Mac) (a o n b p : Int) : FixM m (m.dcss a o n b p).2 := by
  have t := FixM.touch2 m a b
  have h := mm_dcss ((m.touch a).touch b).mm a o n b p
  unfold Mac.dcss; dsimp only
  split
  · exact t.1.of t.2 ⟨rfl, rfl, rfl, rfl⟩ h.2 (by show (((m.touch a).touch b).mm.dcss a o n b p).st ≤ _; omega)
  · exact t.1.of t.2 ⟨rfl, rfl, rfl, rfl⟩ rfl (by show ((m.touch a).touch b).mm.st ≤ _; omega)
theorem FixM.refl (m : Mac) : FixM m m := ⟨rfl, rfl, rfl, rfl, by omega, by omega⟩
theorem FixM.next (m : Mac) (n : Int) : FixM m (m.next n).2 := by
  unfold Mac.next
  split
  · exact FixM.refl m
  · exact ⟨rfl, rfl, rfl, rfl, by show m.mm.st ≤ _; omega, Int.le_refl _⟩
theorem FixM.lvl (m : Mac) (n : Int) : FixM m (m.lvl n).2 := by
  unfold Mac.lvl
  split
  · exact FixM.refl m
  · exact ⟨rfl, rfl, rfl, rfl, by show m.mm.st ≤ _; omega, Int.le_refl _⟩
theorem Fix.m {x y : Run} {m : Mac} (h : Fix x y) (e : FixM y.m m) : Fix x { y with m := m } := ⟨e.p.trans h.p, h.id, e.th.trans h.th, e.b.trans h.b, e.w.trans h.w, h.pr, h.su, h.wo⟩
theorem Fix.t {x y : Run} {t : Thr} (h : Fix x y) (h1 : t.pred.length = y.t.pred.length) (h2 : t.succ.length = y.t.succ.length) (h3 : t.word.length = y.t.word.length) : Fix x { y with t := t } := ⟨h.p, h.id, h.th, h.b, h.w, h1.trans h.pr, h2.trans h.su, h3.trans h.wo⟩
theorem Thr.pop_pl (t : Thr) (r : List Int) : (t.pop r).pred = t.pred ∧ (t.pop r).succ = t.succ ∧ (t.pop r).word = t.word := by unfold Thr.pop; split <;> exact ⟨rfl, rfl, rfl⟩
theorem St.fix {n : Nat} {x y : Run} (h : St n x y) : Fix x y := by
  induction h with
  | refl x => exact ⟨rfl, rfl, rfl, rfl, rfl, rfl, rfl, rfl⟩
  | load _ ih => exact ih.m (FixM.load _ _)
  | store _ ih => exact ih.m (FixM.store _ _ _)
  | cas _ ih => exact ih.m (FixM.cas _ _ _ _)
  | add _ ih => exact ih.m (FixM.add _ _ _)
  | dcas _ ih => exact ih.m (FixM.dcas _ _ _ _ _ _ _)
  | dcss _ ih => exact ih.m (FixM.dcss _ _ _ _ _ _)
  | next _ ih => exact ih.m (FixM.next _ _)
  | lvl _ ih => exact ih.m (FixM.lvl _ _)
  | gh _ ih => exact ih.m ⟨rfl, rfl, rfl, rfl, by show Mm.st _ ≤ _; exact Int.le_add_one (Int.le_refl _), by show Mac.used _ ≤ _; exact Int.le_add_one (Int.le_refl _)⟩
  | s _ ih => exact ih.t rfl rfl rfl
  | pc _ ih => exact ih.t rfl rfl rfl
  | push _ ih => exact ih.t rfl rfl rfl
  | pop _ ih => exact ih.t (by rw [(Thr.pop_pl _ _).1]) (by rw [(Thr.pop_pl _ _).2.1]) (by rw [(Thr.pop_pl _ _).2.2])
  | fo _ _ ih => exact ih.t rfl rfl rfl
  | re _ _ ih => exact ih.t rfl rfl rfl
  | part _ ih => exact ih.t rfl rfl rfl
  | setPl h1 h2 h3 _ ih => exact ih.t h1 h2 h3
  | up _ ih => exact ih
def Run.P (x : Run) : Nat := x.m.mm.st.toNat + x.m.used.toNat + x.t.retired.length + x.t.found.length + x.t.fr.length
theorem filt2 (p : Int → Bool) : ∀ l : List Int, (l.filter p).length + (l.filter fun n => !p n).length = l.length
  | [] => rfl
  | a :: l => by
    have ih := filt2 p l
    cases h : p a <;> simp [List.filter_cons, h] <;> omega
theorem P_m {x : Run} {m : Mac} (h : FixM x.m m) : ({ x with m := m } : Run).P ≤ x.P + 2 := by
  have h1 := h.st
  have h2 := h.us
  unfold Run.P
  dsimp only
  omega
theorem P_setF (x : Run) (f : Frm) : (x.setF f).P ≤ x.P + 2 := by
  unfold Run.P
  show x.m.mm.st.toNat + x.m.used.toNat + x.t.retired.length + x.t.found.length + (x.t.fr.dropLast ++ [f]).length ≤ _
  simp
  omega
theorem St.P {n : Nat} {x y : Run} (h : St n x y) : y.P ≤ x.P + 2 * n := by
  induction h with
  | refl x => omega
  | @load _ _ y a _ ih => have := P_m (x := y) (FixM.load y.m a); exact Nat.le_trans this (by omega)
  | @store _ _ y a v _ ih => have := P_m (x := y) (FixM.store y.m a v); exact Nat.le_trans this (by omega)
  | @cas _ _ y a o v _ ih => have := P_m (x := y) (FixM.cas y.m a o v); exact Nat.le_trans this (by omega)
  | @add _ _ y a v _ ih => have := P_m (x := y) (FixM.add y.m a v); exact Nat.le_trans this (by omega)
  | @dcas _ _ y a o v b p q _ ih => have := P_m (x := y) (FixM.dcas y.m a o v b p q); exact Nat.le_trans this (by omega)
  | @dcss _ _ y a o v b p _ ih => have := P_m (x := y) (FixM.dcss y.m a o v b p); exact Nat.le_trans this (by omega)
  | @next _ _ y k _ ih => have := P_m (x := y) (FixM.next y.m k); exact Nat.le_trans this (by omega)
  | @lvl _ _ y k _ ih => have := P_m (x := y) (FixM.lvl y.m k); exact Nat.le_trans this (by omega)
  | @gh _ _ y f _ ih => have : (y.gh f).P = y.P := rfl; omega
  | @s _ _ y i v _ ih => have := P_setF y (y.f.s i v); exact Nat.le_trans this (by omega)
  | @pc _ _ y i _ ih => have := P_setF y (y.f.at i); exact Nat.le_trans this (by omega)
  | @push _ _ y i r _ ih =>
    have : (y.push i r).P = y.P + 1 := by
      unfold Run.P
      show y.m.mm.st.toNat + y.m.used.toNat + y.t.retired.length + y.t.found.length + (y.t.fr ++ [_]).length = _
      simp
      omega
    omega
  | @pop _ _ y r _ ih =>
    have : (y.pop r).P ≤ y.P := by
      unfold Run.P Run.pop Thr.pop
      split
      · exact Nat.le_refl _
      · dsimp only
        simp
    omega
  | @fo _ _ y l hl _ ih =>
    have : (y.fo l).P ≤ y.P + 1 := by
      unfold Run.P
      show y.m.mm.st.toNat + y.m.used.toNat + y.t.retired.length + l.length + y.t.fr.length ≤ _
      omega
    omega
  | @re _ _ y l hl _ ih =>
    have : (y.re l).P ≤ y.P + 1 := by
      unfold Run.P
      show y.m.mm.st.toNat + y.m.used.toNat + l.length + y.t.found.length + y.t.fr.length ≤ _
      omega
    omega
  | @part _ _ y p _ ih =>
    have h := filt2 p y.t.retired
    have : ((y.re (y.t.retired.filter p)).fo (y.t.retired.filter fun n => !p n)).P ≤ y.P := by
      unfold Run.P
      show y.m.mm.st.toNat + y.m.used.toNat + (y.t.retired.filter p).length + (y.t.retired.filter fun n => !p n).length + y.t.fr.length ≤ _
      omega
    omega
  | @setPl _ _ y p s w _ _ _ _ ih => have : (y.setPl p s w).P = y.P := rfl; omega
  | up _ ih => omega
theorem alloc_St (x : Run) : St 12 x (alloc x) := by
  unfold alloc; dsimp only
  repeat' split
  all_goals (with_reducible repeat' (first | apply St.refl | assumption | apply St.load | apply St.store | apply St.cas | apply St.add | apply St.swing | apply St.swingA | apply St.swingM | apply St.drop1 | apply St.guard | apply St.next | apply St.lvl | apply St.dcas | apply St.dcss | apply St.gh | apply St.call | apply St.fin | apply St.s | apply St.pc | apply St.push | apply St.pop))
theorem release_St (x : Run) : St 12 x (release x) := by
  unfold release; dsimp only
  repeat' split
  all_goals (with_reducible repeat' (first | apply St.refl | assumption | apply St.load | apply St.store | apply St.cas | apply St.add | apply St.swing | apply St.swingA | apply St.swingM | apply St.drop1 | apply St.guard | apply St.next | apply St.lvl | apply St.dcas | apply St.dcss | apply St.gh | apply St.call | apply St.fin | apply St.s | apply St.pc | apply St.push | apply St.pop))
theorem arenaDo_St (x : Run) : St 12 x (arenaDo x) := by
  unfold arenaDo
  repeat' split
  · (with_reducible repeat' (first | apply St.refl | assumption | apply St.load | apply St.store | apply St.cas | apply St.add | apply St.swing | apply St.swingA | apply St.swingM | apply St.drop1 | apply St.guard | apply St.next | apply St.lvl | apply St.dcas | apply St.dcss | apply St.gh | apply St.call | apply St.fin | apply St.s | apply St.pc | apply St.push | apply St.pop))
  · exact alloc_St x
  · exact release_St x
  · (with_reducible repeat' (first | apply St.refl | assumption | apply St.load | apply St.store | apply St.cas | apply St.add | apply St.swing | apply St.swingA | apply St.swingM | apply St.drop1 | apply St.guard | apply St.next | apply St.lvl | apply St.dcas | apply St.dcss | apply St.gh | apply St.call | apply St.fin | apply St.s | apply St.pc | apply St.push | apply St.pop))
theorem protect_St (x : Run) : St 12 x (protect x) := by
  unfold protect; dsimp only
  repeat' split
  all_goals (with_reducible repeat' (first | apply St.refl | assumption | apply St.load | apply St.store | apply St.cas | apply St.add | apply St.swing | apply St.swingA | apply St.swingM | apply St.drop1 | apply St.guard | apply St.next | apply St.lvl | apply St.dcas | apply St.dcss | apply St.gh | apply St.call | apply St.fin | apply St.s | apply St.pc | apply St.push | apply St.pop))
theorem wipe_St (x : Run) : St 12 x (wipe x) := by
  unfold wipe; dsimp only
  repeat' split
  all_goals (with_reducible repeat' (first | apply St.refl | assumption | apply St.load | apply St.store | apply St.cas | apply St.add | apply St.swing | apply St.swingA | apply St.swingM | apply St.drop1 | apply St.guard | apply St.next | apply St.lvl | apply St.dcas | apply St.dcss | apply St.gh | apply St.call | apply St.fin | apply St.s | apply St.pc | apply St.push | apply St.pop))
theorem retire_St (x : Run) : St 12 x (retire x) := by
  unfold retire; dsimp only
  have h2 : St 2 x ((x.gh fun g => g.turn (s64 (x.f.g 0)) 1 2 2).re ((x.gh fun g => g.turn (s64 (x.f.g 0)) 1 2 2).t.retired ++ [s64 (x.f.g 0)])) := St.re (by simp) (St.gh (St.refl _))
  split
  · exact St.up (k := 9) (St.push (St.pop h2))
  · exact St.up (k := 10) (St.pop h2)
theorem scanA_St {x y : Run} {N : Nat} (all : Int) (h : St N x y) : St (N + 2) x (scanA y all) := by
  unfold scanA
  split
  · exact St.pc (St.part h)
  · exact St.up (k := 2) h
theorem scanB_St {x y : Run} {N : Nat} (h : St N x y) : St (N + 2) x (scanB y) := by
  unfold scanB
  split
  · exact St.up (k := 2) (St.pop h)
  · rename_i n rest e
    exact St.push (St.fo (by rw [e]; simp; omega) h)
theorem scan_St (x : Run) : St 12 x (scan x) := by
  have h0 : St 1 x (if x.f.pc = 0 then x.fo [] else x) := by
    split
    · exact St.fo (by simp) (St.refl _)
    · exact St.refl _
  unfold scan
  dsimp only
  generalize (if x.f.pc = 0 then x.fo [] else x) = y at *
  split
  · exact St.up (k := 8) (St.pc (St.fo (by simp) (St.load h0)))
  · exact St.up (k := 7) (scanB_St (scanA_St _ h0))
theorem hazardDo_St (x : Run) : St 12 x (hazardDo x) := by
  unfold hazardDo
  repeat' split
  · (with_reducible repeat' (first | apply St.refl | assumption | apply St.load | apply St.store | apply St.cas | apply St.add | apply St.swing | apply St.swingA | apply St.swingM | apply St.drop1 | apply St.guard | apply St.next | apply St.lvl | apply St.dcas | apply St.dcss | apply St.gh | apply St.call | apply St.fin | apply St.s | apply St.pc | apply St.push | apply St.pop))
  · exact protect_St x
  · exact wipe_St x
  · exact retire_St x
  · exact scan_St x
  · exact arenaDo_St x
theorem lSettle_St' {x y : Run} {N : Nat} (h : St N x y) : St (N + 2) x (lSettle y) := by
  unfold lSettle; dsimp only
  repeat' split
  · exact St.up (k := 2) (St.pop (St.setPl (by simp) (by simp) (by simp) h))
  · exact St.pc (St.s (St.setPl (by simp) (by simp) (by simp) h))
theorem lPass_St {x y : Run} {N : Nat} (h : St N x y) : St (N + 2) x (lPass y) := by
  unfold lPass
  exact St.pc (St.s h)
theorem lJudge_St (x : Run) : St 12 x (lJudge x) := by
  unfold lJudge; dsimp only
  repeat' split
  all_goals repeat' (first | with_reducible apply lPass_St | with_reducible (first | apply St.refl | assumption | apply St.load | apply St.store | apply St.cas | apply St.add | apply St.swing | apply St.swingA | apply St.swingM | apply St.drop1 | apply St.guard | apply St.next | apply St.lvl | apply St.dcas | apply St.dcss | apply St.gh | apply St.call | apply St.fin | apply St.s | apply St.pc | apply St.push | apply St.pop))
theorem lStep_St (x : Run) : St 12 x (lStep x) := by
  unfold lStep; dsimp only
  repeat' split
  all_goals repeat' (first | with_reducible exact lJudge_St x | with_reducible apply lPass_St | with_reducible apply lSettle_St' | with_reducible (first | apply St.refl | assumption | apply St.load | apply St.store | apply St.cas | apply St.add | apply St.swing | apply St.swingA | apply St.swingM | apply St.drop1 | apply St.guard | apply St.next | apply St.lvl | apply St.dcas | apply St.dcss | apply St.gh | apply St.call | apply St.fin | apply St.s | apply St.pc | apply St.push | apply St.pop))
theorem locateDo_St (x : Run) : St 12 x (locateDo x) := by
  unfold locateDo
  try dsimp only
  repeat' split
  all_goals first | with_reducible exact lStep_St x | with_reducible exact hazardDo_St x | (with_reducible repeat' (first | apply St.refl | assumption | apply St.load | apply St.store | apply St.cas | apply St.add | apply St.swing | apply St.swingA | apply St.swingM | apply St.drop1 | apply St.guard | apply St.next | apply St.lvl | apply St.dcas | apply St.dcss | apply St.gh | apply St.call | apply St.fin | apply St.s | apply St.pc | apply St.push | apply St.pop))
theorem tdStep_St (x : Run) : St 12 x (tdStep x) := by
  unfold tdStep; dsimp only
  repeat' split
  all_goals (with_reducible repeat' (first | apply St.refl | assumption | apply St.load | apply St.store | apply St.cas | apply St.add | apply St.swing | apply St.swingA | apply St.swingM | apply St.drop1 | apply St.guard | apply St.next | apply St.lvl | apply St.dcas | apply St.dcss | apply St.gh | apply St.call | apply St.fin | apply St.s | apply St.pc | apply St.push | apply St.pop))
theorem ctStep_St (x : Run) : St 12 x (ctStep x) := by
  unfold ctStep; dsimp only
  repeat' split
  all_goals (with_reducible repeat' (first | apply St.refl | assumption | apply St.load | apply St.store | apply St.cas | apply St.add | apply St.swing | apply St.swingA | apply St.swingM | apply St.drop1 | apply St.guard | apply St.next | apply St.lvl | apply St.dcas | apply St.dcss | apply St.gh | apply St.call | apply St.fin | apply St.s | apply St.pc | apply St.push | apply St.pop))
theorem mvWalk_St (x : Run) : St 12 x (mvWalk x) := by
  unfold mvWalk mvDown; dsimp only
  repeat' split
  all_goals (with_reducible repeat' (first | apply St.refl | assumption | apply St.load | apply St.store | apply St.cas | apply St.add | apply St.swing | apply St.swingA | apply St.swingM | apply St.drop1 | apply St.guard | apply St.next | apply St.lvl | apply St.dcas | apply St.dcss | apply St.gh | apply St.call | apply St.fin | apply St.s | apply St.pc | apply St.push | apply St.pop))
theorem mvStep_St (x : Run) : St 12 x (mvStep x) := by
  unfold mvStep mvDown; dsimp only
  repeat' split
  all_goals first | with_reducible exact mvWalk_St x | (with_reducible repeat' (first | apply St.refl | assumption | apply St.load | apply St.store | apply St.cas | apply St.add | apply St.swing | apply St.swingA | apply St.swingM | apply St.drop1 | apply St.guard | apply St.next | apply St.lvl | apply St.dcas | apply St.dcss | apply St.gh | apply St.call | apply St.fin | apply St.s | apply St.pc | apply St.push | apply St.pop))
theorem liTake_St (x : Run) : St 12 x (liTake x) := by
  unfold liTake; dsimp only
  repeat' split
  all_goals (with_reducible repeat' (first | apply St.refl | assumption | apply St.load | apply St.store | apply St.cas | apply St.add | apply St.swing | apply St.swingA | apply St.swingM | apply St.drop1 | apply St.guard | apply St.next | apply St.lvl | apply St.dcas | apply St.dcss | apply St.gh | apply St.call | apply St.fin | apply St.s | apply St.pc | apply St.push | apply St.pop))
theorem liLay_St (x : Run) : St 12 x (liLay x) := by
  unfold liLay; dsimp only
  repeat' split
  all_goals (with_reducible repeat' (first | apply St.refl | assumption | apply St.load | apply St.store | apply St.cas | apply St.add | apply St.swing | apply St.swingA | apply St.swingM | apply St.drop1 | apply St.guard | apply St.next | apply St.lvl | apply St.dcas | apply St.dcss | apply St.gh | apply St.call | apply St.fin | apply St.s | apply St.pc | apply St.push | apply St.pop))
theorem liEnter_St (x : Run) : St 12 x (liEnter x) := by
  unfold liEnter; dsimp only
  repeat' split
  all_goals (with_reducible repeat' (first | apply St.refl | assumption | apply St.load | apply St.store | apply St.cas | apply St.add | apply St.swing | apply St.swingA | apply St.swingM | apply St.drop1 | apply St.guard | apply St.next | apply St.lvl | apply St.dcas | apply St.dcss | apply St.gh | apply St.call | apply St.fin | apply St.s | apply St.pc | apply St.push | apply St.pop))
theorem liClimb_St (x : Run) : St 12 x (liClimb x) := by
  unfold liClimb; dsimp only
  repeat' split
  all_goals (with_reducible repeat' (first | apply St.refl | assumption | apply St.load | apply St.store | apply St.cas | apply St.add | apply St.swing | apply St.swingA | apply St.swingM | apply St.drop1 | apply St.guard | apply St.next | apply St.lvl | apply St.dcas | apply St.dcss | apply St.gh | apply St.call | apply St.fin | apply St.s | apply St.pc | apply St.push | apply St.pop))
theorem liJoin_St (x : Run) : St 12 x (liJoin x) := by
  unfold liJoin; dsimp only
  repeat' split
  all_goals (with_reducible repeat' (first | apply St.refl | assumption | apply St.load | apply St.store | apply St.cas | apply St.add | apply St.swing | apply St.swingA | apply St.swingM | apply St.drop1 | apply St.guard | apply St.next | apply St.lvl | apply St.dcas | apply St.dcss | apply St.gh | apply St.call | apply St.fin | apply St.s | apply St.pc | apply St.push | apply St.pop))
theorem liStep_St (x : Run) : St 12 x (liStep x) := by
  unfold liStep
  try dsimp only
  repeat' split
  all_goals first | with_reducible exact liTake_St x | with_reducible exact liLay_St x | with_reducible exact liEnter_St x | with_reducible exact liClimb_St x | with_reducible exact liJoin_St x | (with_reducible repeat' (first | apply St.refl | assumption | apply St.load | apply St.store | apply St.cas | apply St.add | apply St.swing | apply St.swingA | apply St.swingM | apply St.drop1 | apply St.guard | apply St.next | apply St.lvl | apply St.dcas | apply St.dcss | apply St.gh | apply St.call | apply St.fin | apply St.s | apply St.pc | apply St.push | apply St.pop))
theorem lrLook_St (x : Run) : St 12 x (lrLook x) := by
  unfold lrLook; dsimp only
  repeat' split
  all_goals (with_reducible repeat' (first | apply St.refl | assumption | apply St.load | apply St.store | apply St.cas | apply St.add | apply St.swing | apply St.swingA | apply St.swingM | apply St.drop1 | apply St.guard | apply St.next | apply St.lvl | apply St.dcas | apply St.dcss | apply St.gh | apply St.call | apply St.fin | apply St.s | apply St.pc | apply St.push | apply St.pop))
theorem lrOn_St (x : Run) : St 12 x (lrOn x) := by
  unfold lrOn; dsimp only
  repeat' split
  all_goals (with_reducible repeat' (first | apply St.refl | assumption | apply St.load | apply St.store | apply St.cas | apply St.add | apply St.swing | apply St.swingA | apply St.swingM | apply St.drop1 | apply St.guard | apply St.next | apply St.lvl | apply St.dcas | apply St.dcss | apply St.gh | apply St.call | apply St.fin | apply St.s | apply St.pc | apply St.push | apply St.pop))
theorem lrTell_St (x : Run) : St 12 x (lrTell x) := by
  unfold lrTell; dsimp only
  repeat' split
  all_goals (with_reducible repeat' (first | apply St.refl | assumption | apply St.load | apply St.store | apply St.cas | apply St.add | apply St.swing | apply St.swingA | apply St.swingM | apply St.drop1 | apply St.guard | apply St.next | apply St.lvl | apply St.dcas | apply St.dcss | apply St.gh | apply St.call | apply St.fin | apply St.s | apply St.pc | apply St.push | apply St.pop))
theorem lrCut_St (x : Run) : St 12 x (lrCut x) := by
  unfold lrCut; dsimp only
  repeat' split
  all_goals (with_reducible repeat' (first | apply St.refl | assumption | apply St.load | apply St.store | apply St.cas | apply St.add | apply St.swing | apply St.swingA | apply St.swingM | apply St.drop1 | apply St.guard | apply St.next | apply St.lvl | apply St.dcas | apply St.dcss | apply St.gh | apply St.call | apply St.fin | apply St.s | apply St.pc | apply St.push | apply St.pop))
theorem lrStep_St (x : Run) : St 12 x (lrStep x) := by
  unfold lrStep
  try dsimp only
  repeat' split
  all_goals first | with_reducible exact lrLook_St x | with_reducible exact lrOn_St x | with_reducible exact lrTell_St x | with_reducible exact lrCut_St x | (with_reducible repeat' (first | apply St.refl | assumption | apply St.load | apply St.store | apply St.cas | apply St.add | apply St.swing | apply St.swingA | apply St.swingM | apply St.drop1 | apply St.guard | apply St.next | apply St.lvl | apply St.dcas | apply St.dcss | apply St.gh | apply St.call | apply St.fin | apply St.s | apply St.pc | apply St.push | apply St.pop))
theorem lindenDo_St (x : Run) : St 12 x (lindenDo x) := by
  unfold lindenDo
  try dsimp only
  repeat' split
  all_goals first | with_reducible exact locateDo_St x | with_reducible exact liStep_St x | with_reducible exact tdStep_St x | with_reducible exact ctStep_St x | with_reducible exact mvStep_St x | with_reducible exact lrStep_St x | (with_reducible repeat' (first | apply St.refl | assumption | apply St.load | apply St.store | apply St.cas | apply St.add | apply St.swing | apply St.swingA | apply St.swingM | apply St.drop1 | apply St.guard | apply St.next | apply St.lvl | apply St.dcas | apply St.dcss | apply St.gh | apply St.call | apply St.fin | apply St.s | apply St.pc | apply St.push | apply St.pop))
end Go.Proofs.YtglgifgoojncpaaGreat.Mod
end
namespace Go.Proofs.YtglgifgoojncpaaGreat
section
open Mod
structure Rest (Q : Frm → Prop) (x : Run) : Prop where
  a : ∀ f ∈ x.t.fr.dropLast, Q f
structure AllF (Q : Frm → Prop) (x : Run) : Prop where
  a : ∀ f ∈ x.t.fr, Q f
section
variable {Q : Frm → Prop} {x : Run}
theorem AllF.rest (h : AllF Q x) : Rest Q x := ⟨fun f hf => h.a f (List.dropLast_subset _ hf)⟩
theorem AllF.top (h : AllF Q x) (hne : x.t.fr ≠ []) : Q x.f := by
  have e : x.f = x.t.fr.getLast hne := by
    show x.t.fr.getLast?.getD dfF = _
    rw [List.getLast?_eq_some_getLast hne]
    rfl
  rw [e]
  exact h.a _ (List.getLast_mem hne)
theorem Rest.setF {f : Frm} (h : Rest Q x) : Rest Q (x.setF f) := by
  constructor
  intro g hg
  have hg : g ∈ (x.t.fr.dropLast ++ [f]).dropLast := hg
  rw [List.dropLast_append_of_ne_nil (by simp)] at hg
  simp at hg
  exact h.a g hg
theorem Rest.s {i : Nat} {v : Int} (h : Rest Q x) : Rest Q (x.s i v) := h.setF
theorem Rest.pc {i : Int} (h : Rest Q x) : Rest Q (x.pc i) := h.setF
theorem Rest.m {m : Mac} (h : Rest Q x) : Rest Q { x with m := m } := ⟨h.a⟩
theorem Lo.rest {y : Run} (h : Lo x y) (r : Rest Q x) : Rest Q y := by
  induction h with
  | refl => exact r
  | s _ ih => exact ih.s
  | pc _ ih => exact ih.pc
  | _ => rename_i ih; exact ⟨ih.a⟩
theorem Rest.all {f : Frm} (h : Rest Q x) (hf : Q f) : AllF Q (x.setF f) := by
  constructor
  intro g hg
  have hg : g ∈ x.t.fr.dropLast ++ [f] := hg
  rcases List.mem_append.1 hg with h1 | h1
  · exact h.a g h1
  · rw [List.mem_singleton.1 h1]; exact hf
theorem Rest.allPc {i : Int} (h : Rest Q x) (hf : Q (x.f.at i)) : AllF Q (x.pc i) := h.all hf
theorem Rest.allS {i : Nat} {v : Int} (h : Rest Q x) (hf : Q (x.f.s i v)) : AllF Q (x.s i v) := h.all hf
theorem Rest.pop {r : List Int} (h : Rest Q x) : AllF Q (x.pop r) := by
  constructor
  intro g hg
  have hg : g ∈ (x.t.pop r).fr := hg
  unfold Thr.pop at hg
  split at hg
  · rename_i e; rw [e] at hg; cases hg
  · exact h.a g hg
theorem AllF.push {i : Int} {r : List Int} (h : AllF Q x) (hf : Q ⟨i, 0, pad 10 r⟩) : AllF Q (x.push i r) := by
  constructor
  intro g hg
  have hg : g ∈ x.t.fr ++ [⟨i, 0, pad 10 r⟩] := hg
  rcases List.mem_append.1 hg with h1 | h1
  · exact h.a g h1
  · rw [List.mem_singleton.1 h1]; exact hf
theorem Rest.call {i j : Int} {r : List Int} (h : Rest Q x) (hf : Q (x.f.at i)) (hg : Q ⟨j, 0, pad 10 r⟩) : AllF Q (x.call i j r) := AllF.push (h.allPc hf) hg
theorem Rest.fin {i j k : Int} (h : Rest Q x) (hf : Q ((((x.f.s 7 i).s 8 j).s 9 k).at 90)) (hg : Q ⟨4, 0, pad 10 []⟩) : AllF Q (x.fin i j k) := by
  unfold Run.fin
  refine Rest.call (by (focus (refine Lo.rest ?_ (by assumption); (with_reducible repeat' constructor)))) ?_ hg
  rw [f_s, f_s, f_s]
  exact hf
theorem AllF.load {a : Int} (h : AllF Q x) : AllF Q (x.load a).2 := ⟨h.a⟩
theorem AllF.store {a v : Int} (h : AllF Q x) : AllF Q (x.store a v) := ⟨h.a⟩
theorem AllF.cas {a o n : Int} (h : AllF Q x) : AllF Q (x.cas a o n).2 := ⟨h.a⟩
theorem AllF.add {a v : Int} (h : AllF Q x) : AllF Q (x.add a v).2 := ⟨h.a⟩
theorem AllF.swing {a v w : Int} {b : Bool} (h : AllF Q x) : AllF Q (x.swing a v w b).2 := ⟨h.a⟩
theorem AllF.swingA {a v w : Int} (h : AllF Q x) : AllF Q (x.swingA a v w).2 := ⟨h.a⟩
theorem AllF.swingM {a v w : Int} {b : Bool} (h : AllF Q x) : AllF Q (x.swingM a v w b).2 := ⟨h.a⟩
theorem AllF.drop1 {a : Int} (h : AllF Q x) : AllF Q (x.drop1 a).2 := ⟨h.a⟩
theorem AllF.guard {a v : Int} (h : AllF Q x) : AllF Q (x.guard a v) := ⟨h.a⟩
theorem AllF.gh {f : Gh → Gh} (h : AllF Q x) : AllF Q (x.gh f) := ⟨h.a⟩
theorem AllF.fo {l : List Int} (h : AllF Q x) : AllF Q (x.fo l) := ⟨h.a⟩
theorem AllF.re {l : List Int} (h : AllF Q x) : AllF Q (x.re l) := ⟨h.a⟩
theorem AllF.setPl {p s w : List Int} (h : AllF Q x) : AllF Q (x.setPl p s w) := ⟨h.a⟩
end
theorem at_len (f : Frm) (i : Int) : (f.at i).r.length = f.r.length := rfl
theorem s_len (f : Frm) (i : Nat) (v : Int) : (f.s i v).r.length = f.r.length := by unfold Frm.s; simp
def HzOk (sl th : Int) (f : Frm) : Prop := f.r.length = 10 ∧ ((f.fn = 1 ∨ f.fn = 2 ∨ f.fn = 3) ∧ 0 ≤ f.pc ∧ f.pc ≤ 2 ∨ f.fn = 4 ∧ 0 ≤ f.pc ∧ f.pc ≤ sl ∨ f.fn = 5 ∧ f.pc = 0 ∨ f.fn = 6 ∧ 0 ≤ f.pc ∧ f.pc ≤ sl * th + 1)
section
variable {Q : Frm → Prop} {x : Run} {sl th : Int}
theorem alloc_All (hQ : ∀ f, HzOk sl th f → Q f) (h : AllF Q x) (o : HzOk sl th x.f) (e : x.f.fn = 1) : AllF Q (alloc x) := by
  have r := h.rest
  obtain ⟨len, o2⟩ := o
  unfold alloc; dsimp only
  repeat' split
  all_goals ((repeat (with_reducible first | apply AllF.load | apply AllF.store | apply AllF.cas | apply AllF.add | apply AllF.swing | apply AllF.swingA | apply AllF.swingM | apply AllF.drop1 | apply AllF.guard | apply AllF.gh | apply AllF.fo | apply AllF.re | apply AllF.setPl)); first | with_reducible assumption | ((with_reducible first | apply Rest.pop | apply Rest.call | apply Rest.allPc | apply Rest.allS | apply Rest.fin); (focus (refine Lo.rest ?_ (by assumption); (with_reducible repeat' constructor)))))
  all_goals (refine hQ _ ?_; ((try simp only [f_pc, f_s, f_load, f_store, f_cas, f_add, f_gh]); unfold HzOk; (try simp only [fn_at, fn_s, pc_at, pc_s, at_len, s_len]); omega))
theorem release_All (hQ : ∀ f, HzOk sl th f → Q f) (h : AllF Q x) (o : HzOk sl th x.f) (e : x.f.fn = 2) : AllF Q (release x) := by
  have r := h.rest
  obtain ⟨len, o2⟩ := o
  unfold release; dsimp only
  repeat' split
  all_goals ((repeat (with_reducible first | apply AllF.load | apply AllF.store | apply AllF.cas | apply AllF.add | apply AllF.swing | apply AllF.swingA | apply AllF.swingM | apply AllF.drop1 | apply AllF.guard | apply AllF.gh | apply AllF.fo | apply AllF.re | apply AllF.setPl)); first | with_reducible assumption | ((with_reducible first | apply Rest.pop | apply Rest.call | apply Rest.allPc | apply Rest.allS | apply Rest.fin); (focus (refine Lo.rest ?_ (by assumption); (with_reducible repeat' constructor)))))
  all_goals (refine hQ _ ?_; ((try simp only [f_pc, f_s, f_load, f_store, f_cas, f_add, f_gh]); unfold HzOk; (try simp only [fn_at, fn_s, pc_at, pc_s, at_len, s_len]); omega))
theorem protect_All (hQ : ∀ f, HzOk sl th f → Q f) (h : AllF Q x) (o : HzOk sl th x.f) (e : x.f.fn = 3) : AllF Q (protect x) := by
  have r := h.rest
  obtain ⟨len, o2⟩ := o
  unfold protect; dsimp only
  repeat' split
  all_goals ((repeat (with_reducible first | apply AllF.load | apply AllF.store | apply AllF.cas | apply AllF.add | apply AllF.swing | apply AllF.swingA | apply AllF.swingM | apply AllF.drop1 | apply AllF.guard | apply AllF.gh | apply AllF.fo | apply AllF.re | apply AllF.setPl)); first | with_reducible assumption | ((with_reducible first | apply Rest.pop | apply Rest.call | apply Rest.allPc | apply Rest.allS | apply Rest.fin); (focus (refine Lo.rest ?_ (by assumption); (with_reducible repeat' constructor)))))
  all_goals (refine hQ _ ?_; ((try simp only [f_pc, f_s, f_load, f_store, f_cas, f_add, f_gh]); unfold HzOk; (try simp only [fn_at, fn_s, pc_at, pc_s, at_len, s_len]); omega))
theorem wipe_All (hQ : ∀ f, HzOk sl th f → Q f) (h : AllF Q x) (hs : sl = x.m.p.slots) (o : HzOk sl th x.f) (e : x.f.fn = 4) : AllF Q (wipe x) := by
  have r := h.rest
  obtain ⟨len, o2⟩ := o
  unfold wipe; dsimp only
  repeat' split
  all_goals ((repeat (with_reducible first | apply AllF.load | apply AllF.store | apply AllF.cas | apply AllF.add | apply AllF.swing | apply AllF.swingA | apply AllF.swingM | apply AllF.drop1 | apply AllF.guard | apply AllF.gh | apply AllF.fo | apply AllF.re | apply AllF.setPl)); first | with_reducible assumption | ((with_reducible first | apply Rest.pop | apply Rest.call | apply Rest.allPc | apply Rest.allS | apply Rest.fin); (focus (refine Lo.rest ?_ (by assumption); (with_reducible repeat' constructor)))))
  all_goals (refine hQ _ ?_; ((try simp only [f_pc, f_s, f_load, f_store, f_cas, f_add, f_gh]); unfold HzOk; (try simp only [fn_at, fn_s, pc_at, pc_s, at_len, s_len]); omega))
theorem hz_new {fn : Int} {l : List Int} (h : 1 ≤ fn ∧ fn ≤ 6) (hs : 0 ≤ sl) (ht : 0 ≤ sl * th) : HzOk sl th ⟨fn, 0, pad 10 l⟩ := by
  refine ⟨pad_len _ _, ?_⟩
  dsimp only
  omega
theorem retire_All (hQ : ∀ f, HzOk sl th f → Q f) (h : AllF Q x) (hs : 0 ≤ sl) (ht : 0 ≤ sl * th) : AllF Q (retire x) := by
  have r := h.rest
  unfold retire; dsimp only
  split
  · refine AllF.push ?_ (hQ _ (hz_new (by omega) hs ht))
    ((repeat (with_reducible first | apply AllF.load | apply AllF.store | apply AllF.cas | apply AllF.add | apply AllF.swing | apply AllF.swingA | apply AllF.swingM | apply AllF.drop1 | apply AllF.guard | apply AllF.gh | apply AllF.fo | apply AllF.re | apply AllF.setPl)); first | with_reducible assumption | ((with_reducible first | apply Rest.pop | apply Rest.call | apply Rest.allPc | apply Rest.allS | apply Rest.fin); (focus (refine Lo.rest ?_ (by assumption); (with_reducible repeat' constructor)))))
  · ((repeat (with_reducible first | apply AllF.load | apply AllF.store | apply AllF.cas | apply AllF.add | apply AllF.swing | apply AllF.swingA | apply AllF.swingM | apply AllF.drop1 | apply AllF.guard | apply AllF.gh | apply AllF.fo | apply AllF.re | apply AllF.setPl)); first | with_reducible assumption | ((with_reducible first | apply Rest.pop | apply Rest.call | apply Rest.allPc | apply Rest.allS | apply Rest.fin); (focus (refine Lo.rest ?_ (by assumption); (with_reducible repeat' constructor)))))
theorem scanA_All (hQ : ∀ f, HzOk sl th f → Q f) (h : AllF Q x) {all : Int} (ha : all = sl * th) (h0 : 0 ≤ all) (o : HzOk sl th x.f) (e : x.f.fn = 6) : AllF Q (scanA x all) := by
  have r := h.rest
  obtain ⟨len, o2⟩ := o
  unfold scanA
  split
  · refine Rest.allPc (by (focus (refine Lo.rest ?_ (by assumption); (with_reducible repeat' constructor)))) (hQ _ ?_)
    show HzOk sl th (x.f.at (x.f.pc + 1))
    ((try simp only [f_pc, f_s, f_load, f_store, f_cas, f_add, f_gh]); unfold HzOk; (try simp only [fn_at, fn_s, pc_at, pc_s, at_len, s_len]); omega)
  · exact h
theorem scanB_All (hQ : ∀ f, HzOk sl th f → Q f) (h : AllF Q x) (hs : 0 ≤ sl) (ht : 0 ≤ sl * th) : AllF Q (scanB x) := by
  have r := h.rest
  unfold scanB
  split
  · ((repeat (with_reducible first | apply AllF.load | apply AllF.store | apply AllF.cas | apply AllF.add | apply AllF.swing | apply AllF.swingA | apply AllF.swingM | apply AllF.drop1 | apply AllF.guard | apply AllF.gh | apply AllF.fo | apply AllF.re | apply AllF.setPl)); first | with_reducible assumption | ((with_reducible first | apply Rest.pop | apply Rest.call | apply Rest.allPc | apply Rest.allS | apply Rest.fin); (focus (refine Lo.rest ?_ (by assumption); (with_reducible repeat' constructor)))))
  · refine AllF.push ?_ (hQ _ (hz_new (by omega) hs ht))
    exact h.fo
theorem scan_All (hQ : ∀ f, HzOk sl th f → Q f) (h : AllF Q x) (hs : sl = x.m.p.slots) (ht : th = x.m.p.c.threads) (s0 : 0 ≤ sl) (t0 : 0 ≤ sl * th) (o : HzOk sl th x.f) (e : x.f.fn = 6) : AllF Q (scan x) := by
  have hy : AllF Q (if x.f.pc = 0 then x.fo [] else x) ∧ (if x.f.pc = 0 then x.fo [] else x).f = x.f := by
    split
    · exact ⟨h.fo, rfl⟩
    · exact ⟨h, rfl⟩
  unfold scan
  dsimp only
  generalize (if x.f.pc = 0 then x.fo [] else x) = y at *
  obtain ⟨h2, ef⟩ := hy
  have r := h2.rest
  rw [← hs, ← ht]
  split
  · rename_i c
    obtain ⟨len, o2⟩ := o
    refine Rest.allPc (by (focus (refine Lo.rest ?_ (by assumption); (with_reducible repeat' constructor)))) (hQ _ ?_)
    show HzOk sl th (y.f.at (y.f.pc + 1))
    rw [ef] at c ⊢
    ((try simp only [f_pc, f_s, f_load, f_store, f_cas, f_add, f_gh]); unfold HzOk; (try simp only [fn_at, fn_s, pc_at, pc_s, at_len, s_len]); omega)
  · rename_i c
    exact scanB_All hQ (scanA_All hQ h2 rfl t0 (by rw [ef]; exact o) (by rw [ef]; exact e)) s0 t0
theorem arenaDo_All (hQ : ∀ f, HzOk sl th f → Q f) (h : AllF Q x) (o : HzOk sl th x.f) : AllF Q (arenaDo x) := by
  have r := h.rest
  unfold arenaDo
  split
  · exact h
  split
  · exact alloc_All hQ h o (by assumption)
  split
  · exact release_All hQ h o (by assumption)
  · ((repeat (with_reducible first | apply AllF.load | apply AllF.store | apply AllF.cas | apply AllF.add | apply AllF.swing | apply AllF.swingA | apply AllF.swingM | apply AllF.drop1 | apply AllF.guard | apply AllF.gh | apply AllF.fo | apply AllF.re | apply AllF.setPl)); first | with_reducible assumption | ((with_reducible first | apply Rest.pop | apply Rest.call | apply Rest.allPc | apply Rest.allS | apply Rest.fin); (focus (refine Lo.rest ?_ (by assumption); (with_reducible repeat' constructor)))))
theorem hazardDo_All (hQ : ∀ f, HzOk sl th f → Q f) (h : AllF Q x) (hs : sl = x.m.p.slots) (ht : th = x.m.p.c.threads) (s0 : 0 ≤ sl) (t0 : 0 ≤ sl * th) (o : HzOk sl th x.f) : AllF Q (hazardDo x) := by
  unfold hazardDo
  split
  · exact h
  split
  · exact protect_All hQ h o (by assumption)
  split
  · exact wipe_All hQ h hs o (by assumption)
  split
  · exact retire_All hQ h s0 t0
  split
  · exact scan_All hQ h hs ht s0 t0 o (by assumption)
  · exact arenaDo_All hQ h o
end
end
section
open Mod
def fA (sl th fn pc : Int) : Bool :=
  if fn = 4 then decide (pc < sl) else if fn = 5 then false else if fn = 6 then decide (pc < sl * th)
  else if fn = 10 then decide (pc = 0) else if fn = 14 then decide (pc ≠ 1) else if fn = 35 then decide (pc = 0) else if fn = 36 then decide (pc ≠ 1)
  else decide (pc ≠ 90)
def fW (fn pc : Int) : Nat :=
  if fn = 5 then 3 else if fn = 6 then 2
  else if fn = 20 then (if pc = 0 then 2 else 1)
  else if fn = 21 then (if pc = 17 then 6 else if pc = 8 ∨ pc = 1 ∨ pc = 12 then 3 else 2)
  else if fn = 22 ∨ fn = 23 then (if pc = 12 then 6 else if pc = 1 ∨ pc = 7 then 3 else 2)
  else if fn = 10 then (if pc = 0 then 2 else 1)
  else if fn = 11 then (if pc = 6 then 6 else if pc = 7 ∨ pc = 9 then 5 else if pc = 8 then 4 else if pc = 1 ∨ pc = 5 ∨ pc = 10 ∨ pc = 11 ∨ pc = 13 ∨ pc = 14 then 3 else 2)
  else if fn = 12 ∨ fn = 13 then (if pc = 6 then 6 else if pc = 1 then 4 else if pc = 0 then 3 else 2)
  else if fn = 14 then (if pc = 5 ∨ pc = 6 then 4 else if pc = 0 ∨ pc = 1 ∨ pc = 4 then 3 else 2)
  else if fn = 31 then (if pc = 16 then 4 else if pc = 1 ∨ pc = 7 ∨ pc = 11 ∨ pc = 12 then 3 else 2)
  else if fn = 32 ∨ fn = 33 then (if pc = 5 then 4 else if pc = 2 ∨ pc = 6 ∨ pc = 12 ∨ pc = 13 then 3 else 2)
  else if fn = 34 then (if pc = 2 ∨ pc = 4 then 3 else 2)
  else if fn = 35 then (if pc = 2 then 6 else 2)
  else if fn = 36 then (if pc = 4 then 3 else 2)
  else 1
def fR (fn : Int) : Nat := if fn ≤ 4 then 0 else if fn ≤ 6 then 1 else if fn = 10 then 2 else if fn = 14 ∨ fn = 35 then 3 else 4
theorem fR_le (fn : Int) : fR fn ≤ 4 := by unfold fR; repeat' split
                                           all_goals omega
theorem ite_rng {c : Prop} [Decidable c] {a b : Nat} (ha : 1 ≤ a ∧ a ≤ 6) (hb : 1 ≤ b ∧ b ≤ 6) : 1 ≤ (if c then a else b) ∧ (if c then a else b) ≤ 6 := by
  split
  · exact ha
  · exact hb
theorem fW_rng (fn pc : Int) : 1 ≤ fW fn pc ∧ fW fn pc ≤ 6 := by
  unfold fW
  repeat' (first | with_reducible apply ite_rng | exact ⟨by decide, by decide⟩)
section
variable (sl th : Int)
def muL : List Frm → Nat
  | [] => 0
  | f :: l => fW f.fn f.pc + if fA sl th f.fn f.pc = true then 0 else muL l
def onR (fn : Int) : List Frm → Prop
  | [] => True
  | f :: _ => fA sl th f.fn f.pc = true ∨ fR fn < fR f.fn
def adjL : List Frm → Prop
  | [] => True
  | f :: l => onR sl th f.fn l ∧ adjL l
theorem muL_le : ∀ {l : List Frm} {fn : Int}, onR sl th fn l → adjL sl th l → muL sl th l ≤ 6 * (5 - fR fn)
  | [], _, _, _ => Nat.zero_le _
  | f :: l, fn, h1, h2 => by
    unfold muL
    have hw := (fW_rng f.fn f.pc).2
    have hr := fR_le fn
    have hr2 := fR_le f.fn
    split
    · omega
    · rename_i c
      rcases h1 with h1 | h1
      · exact absurd h1 c
      · have ih := muL_le h2.1 h2.2
        omega
def rst (x : Run) : List Frm := x.t.fr.dropLast.reverse
def mu (x : Run) : Nat := muL sl th x.t.fr.reverse
structure Adj (x : Run) : Prop where
  a : adjL sl th x.t.fr.reverse
structure AdjR (fn : Int) (l : List Frm) (x : Run) : Prop where
  f : x.f.fn = fn
  e : rst x = l
  o : onR sl th fn l
  a : adjL sl th l
end
section
variable {sl th : Int} {x y : Run} {fn : Int} {l : List Frm}
theorem fr_rev (h : x.t.fr ≠ []) : x.t.fr.reverse = x.f :: rst x := by
  conv => lhs; rw [fr_split h]
  simp [rst, Run.f]
theorem Adj.r (h : Adj sl th x) (hne : x.t.fr ≠ []) : AdjR sl th x.f.fn (rst x) x := by
  have h := h.a
  rw [fr_rev hne] at h
  exact ⟨rfl, rfl, h.1, h.2⟩
theorem rst_setF (x : Run) (f : Frm) : rst (x.setF f) = rst x := by
  show (x.t.fr.dropLast ++ [f]).dropLast.reverse = _
  rw [List.dropLast_append_of_ne_nil (by simp)]
  simp [rst]
theorem AdjR.setF {f : Frm} (h : AdjR sl th fn l x) (hf : f.fn = fn) : AdjR sl th fn l (x.setF f) := ⟨by rw [f_setF]; exact hf, by rw [rst_setF]; exact h.e, h.o, h.a⟩
theorem AdjR.s {i : Nat} {v : Int} (h : AdjR sl th fn l x) : AdjR sl th fn l (x.s i v) := h.setF h.f
theorem AdjR.pc {i : Int} (h : AdjR sl th fn l x) : AdjR sl th fn l (x.pc i) := h.setF h.f
theorem AdjR.gh {f : Gh → Gh} (h : AdjR sl th fn l x) : AdjR sl th fn l (x.gh f) := ⟨h.f, h.e, h.o, h.a⟩
theorem AdjR.fo {k : List Int} (h : AdjR sl th fn l x) : AdjR sl th fn l (x.fo k) := ⟨h.f, h.e, h.o, h.a⟩
theorem AdjR.re {k : List Int} (h : AdjR sl th fn l x) : AdjR sl th fn l (x.re k) := ⟨h.f, h.e, h.o, h.a⟩
theorem AdjR.all (h : AdjR sl th fn l x) (hne : x.t.fr ≠ []) : Adj sl th x := by
  constructor
  rw [fr_rev hne]
  exact ⟨by rw [h.f, h.e]; exact h.o, by rw [h.e]; exact h.a⟩
theorem ne_setF (x : Run) (f : Frm) : (x.setF f).t.fr ≠ [] := by
  show x.t.fr.dropLast ++ [f] ≠ []
  simp
theorem Lo.adjR (h : Lo x y) (r : AdjR sl th fn l x) : AdjR sl th fn l y := by
  induction h with
  | refl => exact r
  | s _ ih => exact ih.s
  | pc _ ih => exact ih.pc
  | _ => rename_i ih; exact ⟨ih.f, ih.e, ih.o, ih.a⟩
theorem Lo.ne (h : Lo x y) (r : x.t.fr ≠ []) : y.t.fr ≠ [] := by
  induction h with
  | refl => exact r
  | s _ ih => exact ne_setF _ _
  | pc _ ih => exact ne_setF _ _
  | _ => rename_i ih; exact ih
theorem AdjR.allPc {i : Int} (h : AdjR sl th fn l x) : Adj sl th (x.pc i) := h.pc.all (ne_setF _ _)
theorem AdjR.allS {i : Nat} {v : Int} (h : AdjR sl th fn l x) : Adj sl th (x.s i v) := h.s.all (ne_setF _ _)
theorem AdjR.pop {r : List Int} (h : AdjR sl th fn l x) : Adj sl th (x.pop r) := by
  constructor
  show adjL sl th (x.t.pop r).fr.reverse
  unfold Thr.pop
  split
  · rename_i e; rw [e]; trivial
  · show adjL sl th (rst x)
    rw [h.e]; exact h.a
theorem Adj.push {i : Int} {r : List Int} (h : Adj sl th x) (ho : onR sl th i x.t.fr.reverse) : Adj sl th (x.push i r) := by
  constructor
  show adjL sl th (x.t.fr ++ [(⟨i, 0, pad 10 r⟩ : Frm)]).reverse
  rw [List.reverse_append]
  show adjL sl th (⟨i, 0, pad 10 r⟩ :: x.t.fr.reverse)
  exact ⟨ho, h.a⟩
theorem AdjR.call {i j : Int} {r : List Int} (h : AdjR sl th fn l x) (hd : fA sl th fn i = true ∨ fR j < fR fn) : Adj sl th (x.call i j r) := by
  refine Adj.push h.allPc ?_
  rw [show (x.pc i).t.fr.reverse = (x.pc i).f :: rst (x.pc i) from fr_rev (ne_setF _ _)]
  show fA sl th (x.pc i).f.fn (x.pc i).f.pc = true ∨ _ < fR (x.pc i).f.fn
  rw [f_pc, fn_at, pc_at, h.f]
  exact hd
theorem AdjR.fin {i j k : Int} (h : AdjR sl th fn l x) (hd : fR 4 < fR fn) : Adj sl th (x.fin i j k) := by
  unfold Run.fin
  exact (h.s.s.s).call (.inr hd)
structure Act (x : Run) : Prop where
  a : x.m.acted = true
theorem acted_touch (m : Mac) (a : Int) : (m.touch a).acted = true := by unfold Mac.touch; split <;> rfl
theorem Act.load {a : Int} : Act (x.load a).2 := by
  constructor
  show (x.m.load a).2.acted = true
  unfold Mac.load; dsimp only
  split <;> exact acted_touch _ _
theorem Act.store {a v : Int} : Act (x.store a v) := by
  constructor
  show (x.m.store a v).acted = true
  unfold Mac.store; dsimp only
  split <;> exact acted_touch _ _
theorem Act.cas {a o v : Int} : Act (x.cas a o v).2 := by
  constructor
  show (x.m.cas a o v).2.acted = true
  unfold Mac.cas; dsimp only
  split <;> exact acted_touch _ _
theorem Act.add {a v : Int} : Act (x.add a v).2 := by
  constructor
  show (x.m.add a v).2.acted = true
  unfold Mac.add; dsimp only
  split <;> exact acted_touch _ _
theorem Act.swing {a v w : Int} {b : Bool} : Act (x.swing a v w b).2 := Act.cas
theorem Act.swingA {a v w : Int} : Act (x.swingA a v w).2 := Act.cas
theorem Act.swingM {a v w : Int} {b : Bool} : Act (x.swingM a v w b).2 := Act.cas
theorem Act.drop1 {a : Int} : Act (x.drop1 a).2 := Act.add
theorem Act.guard {a b : Int} : Act (x.guard a b) := Act.store
theorem Act.dcas {a o n b p q : Int} : Act { x with m := (x.m.dcas a o n b p q).2 } := by
  constructor
  show (x.m.dcas a o n b p q).2.acted = true
  unfold Mac.dcas; dsimp only
  split <;> exact acted_touch _ _
theorem Act.dcss {a o n b p : Int} : Act { x with m := (x.m.dcss a o n b p).2 } := by
  constructor
  show (x.m.dcss a o n b p).2.acted = true
  unfold Mac.dcss; dsimp only
  split <;> exact acted_touch _ _
theorem Act.next {n : Int} (h : Act x) : Act { x with m := (x.m.next n).2 } := by
  constructor
  show (x.m.next n).2.acted = true
  unfold Mac.next
  split <;> exact h.a
theorem Act.lvl {n : Int} (h : Act x) : Act { x with m := (x.m.lvl n).2 } := by
  constructor
  show (x.m.lvl n).2.acted = true
  unfold Mac.lvl
  split <;> exact h.a
theorem Tch.act (h : Tch x) : Act x := by
  induction h with
  | load => exact Act.load
  | store => exact Act.store
  | cas => exact Act.cas
  | add => exact Act.add
  | swing => exact Act.swing
  | swingA => exact Act.swingA
  | swingM => exact Act.swingM
  | drop1 => exact Act.drop1
  | guard => exact Act.guard
  | dcas => exact Act.dcas
  | dcss => exact Act.dcss
  | next _ ih => exact ih.next
  | lvl _ ih => exact ih.lvl
  | _ => rename_i ih; exact ⟨ih.a⟩
theorem mu_top (h : x.t.fr ≠ []) : mu sl th x = fW x.f.fn x.f.pc + if fA sl th x.f.fn x.f.pc = true then 0 else muL sl th (rst x) := by
  unfold mu
  rw [fr_rev h]
  rfl
theorem mu_push (x : Run) (i : Int) (r : List Int) : mu sl th (x.push i r) = fW i 0 + if fA sl th i 0 = true then 0 else mu sl th x := by
  unfold mu
  show muL sl th (x.t.fr ++ [(⟨i, 0, pad 10 r⟩ : Frm)]).reverse = _
  rw [List.reverse_append]
  rfl
theorem mu_pop (r : List Int) (h : x.t.fr ≠ []) : mu sl th (x.pop r) = muL sl th (rst x) := by
  unfold mu
  show muL sl th (x.t.pop r).fr.reverse = _
  unfold Thr.pop
  rw [if_neg h]
  rfl
section
variable {x0 : Run} {pc0 : Int}
theorem AdjR.mu (h0 : AdjR sl th fn l x0) (hne : x0.t.fr ≠ []) (hp : x0.f.pc = pc0) : mu sl th x0 = fW fn pc0 + if fA sl th fn pc0 = true then 0 else muL sl th l := by
  rw [mu_top hne, h0.f, h0.e, hp]
theorem AdjR.muPc (h : AdjR sl th fn l y) (i : Int) : Proofs.YtglgifgoojncpaaGreat.mu sl th (y.pc i) = fW fn i + if fA sl th fn i = true then 0 else muL sl th l :=
  h.pc.mu (ne_setF _ _) (by rw [f_pc]; rfl)
theorem AdjR.ltPc {i : Int} (h0 : AdjR sl th fn l x0) (hne : x0.t.fr ≠ []) (hp : x0.f.pc = pc0) (h : AdjR sl th fn l y)
    (hlt : (fW fn i + if fA sl th fn i = true then 0 else muL sl th l) < fW fn pc0 + if fA sl th fn pc0 = true then 0 else muL sl th l) : Proofs.YtglgifgoojncpaaGreat.mu sl th (y.pc i) < Proofs.YtglgifgoojncpaaGreat.mu sl th x0 := by
  rw [h0.mu hne hp, h.muPc]
  exact hlt
theorem AdjR.ltCall {i j : Int} {r : List Int} (h0 : AdjR sl th fn l x0) (hne : x0.t.fr ≠ []) (hp : x0.f.pc = pc0) (h : AdjR sl th fn l y)
    (hlt : (fW j 0 + if fA sl th j 0 = true then 0 else fW fn i + if fA sl th fn i = true then 0 else muL sl th l) < fW fn pc0 + if fA sl th fn pc0 = true then 0 else muL sl th l) : Proofs.YtglgifgoojncpaaGreat.mu sl th (y.call i j r) < Proofs.YtglgifgoojncpaaGreat.mu sl th x0 := by
  show Proofs.YtglgifgoojncpaaGreat.mu sl th ((y.pc i).push j r) < _
  rw [h0.mu hne hp, mu_push, h.muPc]
  exact hlt
theorem AdjR.ltFin {i j k : Int} (h0 : AdjR sl th fn l x0) (hne : x0.t.fr ≠ []) (hp : x0.f.pc = pc0) (h : AdjR sl th fn l y)
    (hlt : (fW 4 0 + if fA sl th 4 0 = true then 0 else fW fn 90 + if fA sl th fn 90 = true then 0 else muL sl th l) < fW fn pc0 + if fA sl th fn pc0 = true then 0 else muL sl th l) : Proofs.YtglgifgoojncpaaGreat.mu sl th (y.fin i j k) < Proofs.YtglgifgoojncpaaGreat.mu sl th x0 :=
  h0.ltCall hne hp (h.s.s.s) hlt
theorem AdjR.ltPop {r : List Int} (h0 : AdjR sl th fn l x0) (hne : x0.t.fr ≠ []) (hp : x0.f.pc = pc0) (h : AdjR sl th fn l y) (hny : y.t.fr ≠ [])
    (hlt : muL sl th l < fW fn pc0 + if fA sl th fn pc0 = true then 0 else muL sl th l) : Proofs.YtglgifgoojncpaaGreat.mu sl th (y.pop r) < Proofs.YtglgifgoojncpaaGreat.mu sl th x0 := by
  rw [h0.mu hne hp, mu_pop r hny, h.e]
  exact hlt
end
def Nx (sl th : Int) (x y : Run) : Prop := Adj sl th y ∧ (Act y ∨ mu sl th y < mu sl th x)
end
end
section
open Mod
structure RunOk (Q : Mod.Cf → Frm → Prop) (c : Mod.Cf) (x : Run) (B : Nat) : Prop where
  p : x.m.p = planOf c
  q : AllF (Q c) x
  a : Adj (planOf c).slots c.threads x
  pr : (x.t.pred.length : Int) = c.level
  su : (x.t.succ.length : Int) = c.level
  wo : (x.t.word.length : Int) = c.level
  P : x.P ≤ B
structure DoOk (d : Run → Run) (Q : Mod.Cf → Frm → Prop) (W : Run → Prop) (ins : Int) : Prop where
  st : ∀ x, St 12 x (d x)
  all : ∀ c x, okC c = true → x.m.p = planOf c → x.t.fr ≠ [] → AllF (Q c) x → AllF (Q c) (d x)
  nx : ∀ c x, okC c = true → x.m.p = planOf c → x.t.fr ≠ [] → AllF (Q c) x → Adj (planOf c).slots c.threads x → Nx (planOf c).slots c.threads x (d x)
  w : ∀ c x B, okC c = true → RunOk Q c x B → B < 200000000 → x.t.fr ≠ [] → 0 ≤ x.id ∧ x.id ≤ 6 → W x
  new : ∀ c op l, okC c = true → 0 ≤ op ∧ op ≤ 2 → Q c ⟨ins + op, 0, pad 10 l⟩
section
variable {d : Run → Run} {Q : Mod.Cf → Frm → Prop} {W : Run → Prop} {ins : Int} {c : Mod.Cf}
theorem RunOk.mono {x : Run} {B C : Nat} (h : RunOk Q c x B) (hb : B ≤ C) : RunOk Q c x C := ⟨h.p, h.q, h.a, h.pr, h.su, h.wo, Nat.le_trans h.P hb⟩
theorem RunOk.bit (D : DoOk d Q W ins) (hc : okC c = true) {x : Run} {B : Nat} (h : RunOk Q c x B) (hne : x.t.fr ≠ []) : RunOk Q c (d x) (B + 24) ∧ Nx (planOf c).slots c.threads x (d x) := by
  have s := D.st x
  have f := s.fix
  have n := D.nx c x hc h.p hne h.q h.a
  have hP := s.P
  have := h.P
  exact ⟨⟨f.p.trans h.p, D.all c x hc h.p hne h.q, n.1, by rw [f.pr]; exact h.pr, by rw [f.su]; exact h.su, by rw [f.wo]; exact h.wo, by omega⟩, n⟩
theorem mu_le {sl th : Int} {x : Run} (h : Adj sl th x) : mu sl th x ≤ 36 := by
  by_cases hne : x.t.fr = []
  · unfold mu
    rw [hne]
    exact Nat.zero_le _
  · rw [mu_top hne]
    have r := h.r hne
    have h1 := muL_le sl th r.o r.a
    have h2 := (fW_rng x.f.fn x.f.pc).2
    split <;> omega
theorem bits_run (D : DoOk d Q W ins) (hc : okC c = true) : ∀ (n : Nat) (x : Run) (B : Nat), mu (planOf c).slots c.threads x ≤ n → RunOk Q c x B → B + 24 * (n + 1) < 200000000 → 0 ≤ x.id ∧ x.id ≤ 6 →
    ∃ k z, Mod.bits d k x = some z ∧ Safe d W k x ∧ Fix x z ∧ RunOk Q c z (B + 24 * (n + 1))
  | n, x, B, hm, h, hB, hid => by
    by_cases c0 : done x = true
    · refine ⟨0, x, ?_, trivial, ⟨rfl, rfl, rfl, rfl, rfl, rfl, rfl, rfl⟩, h.mono (by omega)⟩
      unfold Mod.bits
      unfold done at c0
      rw [if_pos c0]
    · have hne : x.t.fr ≠ [] := by
        intro e
        unfold done at c0
        rw [e] at c0
        simp at c0
      have hb : ∀ k, Mod.bits d (k + 1) x = Mod.bits d k (d x) := by
        intro k
        unfold done at c0
        conv => lhs; unfold Mod.bits
        rw [if_neg c0]
      obtain ⟨h1, n1⟩ := h.bit D hc hne
      have hw := D.w c x B hc h (by omega) hne hid
      have f := (D.st x).fix
      rcases n1.2 with a | lt
      · refine ⟨1, d x, ?_, .inr ⟨hw, trivial⟩, f, h1.mono (by omega)⟩
        rw [hb]
        unfold Mod.bits
        rw [a.a]
        rfl
      · cases n with
        | zero => omega
        | succ n =>
          obtain ⟨k, z, e1, e2, e3, e4⟩ := bits_run D hc n (d x) (B + 24) (by omega) h1 (by omega) (by rw [f.id]; exact hid)
          refine ⟨k + 1, z, by rw [hb]; exact e1, .inr ⟨hw, e2⟩, ⟨e3.p.trans f.p, e3.id.trans f.id, e3.th.trans f.th, e3.b.trans f.b, e3.w.trans f.w, e3.pr.trans f.pr, e3.su.trans f.su, e3.wo.trans f.wo⟩, e4.mono (by omega)⟩
structure ThrOk (Q : Mod.Cf → Frm → Prop) (c : Mod.Cf) (t : Thr) : Prop where
  q : ∀ f ∈ t.fr, Q c f
  a : adjL (planOf c).slots c.threads t.fr.reverse
  pr : (t.pred.length : Int) = c.level
  su : (t.succ.length : Int) = c.level
  wo : (t.word.length : Int) = c.level
def Mod.Thr.L (t : Thr) : Nat := t.retired.length + t.found.length + max t.fr.length 1
def sumL (l : List Thr) : Nat := (l.map Mod.Thr.L).sum
theorem sumL_set : ∀ {l : List Thr} {k : Nat} {t t' : Thr}, l[k]? = some t → sumL (l.set k t') + t.L = sumL l + t'.L
  | [], _, _, _, h => by simp at h
  | a :: l, 0, t, t', h => by
    simp only [List.getElem?_cons_zero, Option.some.injEq] at h
    subst h
    simp only [List.set_cons_zero, sumL, List.map_cons, List.sum_cons]
    omega
  | a :: l, k + 1, t, t', h => by
    simp only [List.getElem?_cons_succ] at h
    have ih := sumL_set (t' := t') h
    simp only [List.set_cons_succ, sumL, List.map_cons, List.sum_cons] at *
    omega
def Mod.Mac.T (m : Mac) : Nat := m.mm.st.toNat + m.used.toNat + sumL m.th
structure MacOk (Q : Mod.Cf → Frm → Prop) (c : Mod.Cf) (i : Nat) (m : Mac) : Prop where
  ok : okC c = true
  p : m.p = planOf c
  w : (m.mm.w.length : Int) = (planOf c).size
  n : m.th.length ≤ 6
  t : ∀ t ∈ m.th, ThrOk Q c t
  T : m.T ≤ 1000 * i + 2000
theorem MacOk.good (D : DoOk d Q W ins) : GoodI d W ins (MacOk Q c) where
  mono i m h := ⟨h.ok, h.p, h.w, h.n, h.t, Nat.le_trans h.T (by omega)⟩
  wd i m h := by
    have B := planOf_B h.ok
    have e : (m.mm.w.length : Int) = m.p.size := by rw [h.p]; exact h.w
    refine ⟨⟨by rw [h.p]; rfl, e⟩, ?_⟩
    have h1 := B.li
    have h2 := B.nd
    have h3 := B.tr
    have h4 := B.si
    rw [h.p] at e
    omega
  push i m k t cl h ht he ho hk hv := by
    have hm := List.mem_of_getElem? ht
    have o := h.t t hm
    refine ⟨h.ok, h.p, h.w, ?_, ?_, ?_⟩
    · show (m.th.set k _).length ≤ 6
      rw [List.length_set]; exact h.n
    · intro u hu
      rcases List.mem_or_eq_of_mem_set hu with hu | rfl
      · exact h.t u hu
      · refine ⟨?_, ?_, o.pr, o.su, o.wo⟩
        · intro f hf
          have hf : f ∈ t.fr ++ [⟨ins + cl.op, 0, pad 10 [cl.key, cl.val]⟩] := hf
          rw [he] at hf
          rw [List.mem_singleton.1 hf]
          exact D.new c cl.op _ h.ok ho
        · show adjL _ _ (t.fr ++ [(⟨ins + cl.op, 0, pad 10 [cl.key, cl.val]⟩ : Frm)]).reverse
          rw [he]
          exact ⟨trivial, trivial⟩
    · have e := sumL_set (t' := t.push (ins + cl.op) [cl.key, cl.val]) ht
      have e2 : (t.push (ins + cl.op) [cl.key, cl.val]).L = t.L := by
        show t.retired.length + t.found.length + max (t.fr ++ [_]).length 1 = t.retired.length + t.found.length + max t.fr.length 1
        rw [he]
        rfl
      have h2 : m.mm.st.toNat + m.used.toNat + sumL m.th ≤ 1000 * i + 2000 := h.T
      show m.mm.st.toNat + m.used.toNat + sumL (m.th.set k (t.push (ins + cl.op) [cl.key, cl.val])) ≤ _
      omega
  step i m k t h hi ht hne := by
    have hm := List.mem_of_getElem? ht
    have o := h.t t hm
    have hk := (List.getElem?_eq_some_iff.1 ht).1
    have hn := h.n
    have hL : 1 ≤ t.fr.length := List.length_pos_iff.2 hne
    have hT : m.mm.st.toNat + m.used.toNat + sumL m.th ≤ 1000 * i + 2000 := h.T
    have e0 := fun t' => sumL_set (t' := t') ht
    have e1 := e0 t
    have eT : t.L = t.retired.length + t.found.length + t.fr.length := by
      unfold Mod.Thr.L
      rw [Nat.max_eq_left hL]
    have hs : sumL (m.th.set k ⟨[], [], [], [], [], [], []⟩) + t.L = sumL m.th + 1 := e0 _
    have hR : RunOk Q c ⟨m.quiet, t, k⟩ (m.mm.st.toNat + m.used.toNat + t.L) := by
      refine ⟨h.p, ⟨o.q⟩, ⟨o.a⟩, o.pr, o.su, o.wo, ?_⟩
      show m.mm.st.toNat + m.used.toNat + t.retired.length + t.found.length + t.fr.length ≤ _
      omega
    obtain ⟨n, z, hb, hsf, f, hz⟩ := bits_run D h.ok 36 _ _ (mu_le hR.a) hR (by omega) ⟨by show (0 : Int) ≤ (k : Int); omega, by show (k : Int) ≤ 6; omega⟩
    refine ⟨n, z, hb, hsf, f.id, f.th, h.ok, ?_, ?_, ?_, ?_, ?_⟩
    · exact f.p.trans h.p
    · show (z.m.mm.w.length : Int) = _
      rw [f.w]
      exact h.w
    · show (m.th.set k z.t).length ≤ 6
      rw [List.length_set]; exact hn
    · intro u hu
      rcases List.mem_or_eq_of_mem_set hu with hu | rfl
      · exact h.t u hu
      · exact ⟨hz.q.a, hz.a.a, hz.pr, hz.su, hz.wo⟩
    · have e2 := e0 z.t
      have hP : z.m.mm.st.toNat + z.m.used.toNat + z.t.retired.length + z.t.found.length + z.t.fr.length ≤ _ := hz.P
      have hz2 : z.t.L ≤ z.t.retired.length + z.t.found.length + z.t.fr.length + 1 := by
        unfold Mod.Thr.L
        have : max z.t.fr.length 1 ≤ z.t.fr.length + 1 := Nat.max_le.2 ⟨by omega, by omega⟩
        omega
      show z.m.mm.st.toNat + z.m.used.toNat + sumL (m.th.set k z.t) ≤ _
      omega
theorem store_len (m : Mm) (a v : Int) : (m.store a v).w.length = m.w.length ∧ (m.store a v).st.toNat ≤ m.st.toNat + 1 := by
  unfold Mm.store
  split
  · exact ⟨by simp [Mm.tick, Mm.put], by show (m.st + 1).toNat ≤ _; omega⟩
  · exact ⟨rfl, by omega⟩
theorem stores_len (f : Nat → Int × Int) : ∀ (l : List Nat) (m : Mm), (l.foldl (fun (m : Mm) (i : Nat) => m.store (f i).1 (f i).2) m).w.length = m.w.length ∧ (l.foldl (fun (m : Mm) (i : Nat) => m.store (f i).1 (f i).2) m).st.toNat ≤ m.st.toNat + l.length
  | [], m => ⟨rfl, by simp⟩
  | i :: l, m => by
    have h1 := store_len m (f i).1 (f i).2
    have h2 := stores_len f l (m.store (f i).1 (f i).2)
    simp only [List.foldl_cons, List.length_cons]
    exact ⟨h2.1.trans h1.1, by omega⟩
theorem lay_len {c : Mod.Cf} (h : okC c = true) : ((lay (planOf c)).w.length : Int) = (planOf c).size ∧ (lay (planOf c)).st.toNat ≤ 200 := by
  have B := planOf_B h
  have b1 := B.no
  have b2 := B.lv
  have b3 := B.se
  have b4 := B.si
  have b5 := B.tr
  have b6 := B.nd
  have b7 := B.li
  unfold lay
  dsimp only
  generalize hm0 : (⟨List.replicate (planOf c).size.toNat 0, 0, false, []⟩ : Mm) = m0
  have h0 : (m0.w.length : Int) = (planOf c).size ∧ m0.st.toNat = 0 := by
    subst hm0
    exact ⟨by simp; omega, rfl⟩
  have h1 := store_len m0 0 (wpack ((planOf c).sent + 1) false 0)
  generalize m0.store 0 (wpack ((planOf c).sent + 1) false 0) = m1 at *
  have h2 := stores_len (fun i => ((planOf c).link ((planOf c).sent + 1 + i), (planOf c).sent + 1 + i + 1)) (List.range ((planOf c).c.nodes - ((planOf c).sent + 1)).toNat) m1
  rw [List.length_range] at h2
  generalize hm2 : (List.range ((planOf c).c.nodes - ((planOf c).sent + 1)).toNat).foldl (fun (m : Mm) (i : Nat) => m.store ((planOf c).link ((planOf c).sent + 1 + i)) ((planOf c).sent + 1 + i + 1)) m1 = m2
  have h2 : m2.w.length = m1.w.length ∧ m2.st.toNat ≤ m1.st.toNat + ((planOf c).c.nodes - ((planOf c).sent + 1)).toNat := by subst hm2; exact h2
  have h3 := store_len m2 2 1
  generalize m2.store 2 1 = m3 at *
  split
  · exact ⟨by omega, by omega⟩
  · have h4 := store_len m3 ((planOf c).node 1 3) (planOf c).c.level
    generalize m3.store ((planOf c).node 1 3) (planOf c).c.level = m4 at *
    have h5 := store_len m4 ((planOf c).node 2 0) 18446744073709551615
    generalize m4.store ((planOf c).node 2 0) 18446744073709551615 = m5 at *
    have h6 := stores_len (fun i => ((planOf c).node 1 (5 + i), wpack 2 false 0)) (List.range (planOf c).c.level.toNat) m5
    rw [List.length_range] at h6
    dsimp only at h6
    exact ⟨by omega, by omega⟩
theorem sumL_new (c : Mod.Cf) : ∀ n : Nat, sumL (List.replicate n (thr0 c)) = n
  | 0 => rfl
  | n + 1 => by
    have ih := sumL_new c n
    simp only [List.replicate_succ, sumL, List.map_cons, List.sum_cons] at *
    have : (thr0 c).L = 1 := rfl
    omega
theorem MacOk.new (hc : okC c = true) (b : List Int) (g : Bool) : MacOk Q c 0 (macNew c b g) := by
  have hl := lay_len hc
  have B := planOf_B hc
  have b1 : 1 ≤ c.threads ∧ c.threads ≤ 6 := B.th
  have b2 : 1 ≤ c.level ∧ c.level ≤ 6 := B.lv
  refine ⟨hc, rfl, hl.1, ?_, ?_, ?_⟩
  · show (List.replicate c.threads.toNat (thr0 c)).length ≤ 6
    rw [List.length_replicate]; omega
  · intro t ht
    have ht : t ∈ List.replicate c.threads.toNat (thr0 c) := ht
    rw [(List.mem_replicate.1 ht).2]
    refine ⟨fun f hf => (by cases hf), trivial, ?_, ?_, ?_⟩ <;> (show ((List.replicate c.level.toNat (0 : Int)).length : Int) = c.level; rw [List.length_replicate]; omega)
  · show (lay (planOf c)).st.toNat + (0 : Int).toNat + sumL (List.replicate c.threads.toNat (thr0 c)) ≤ _
    rw [sumL_new]
    have : (0 : Int).toNat = 0 := rfl
    omega
end
end
section
open Mod
section
variable {x : Run} {sl th : Int}
theorem alloc_Nx (hs : 0 < sl) (hne : x.t.fr ≠ []) (h : Adj sl th x) (e : x.f.fn = 1) : Nx sl th x (alloc x) := by
  have r := h.r hne
  rw [e] at r
  unfold alloc; dsimp only
  repeat' split
  all_goals (refine ⟨by ((with_reducible first | apply AdjR.pop | apply AdjR.allPc | apply AdjR.allS | apply AdjR.fin | apply AdjR.call | apply AdjR.all); (focus (refine Lo.adjR ?_ (by assumption); (with_reducible repeat' constructor))); try (first | decide | (refine .inr ?_; decide) | (refine .inl ?_; simp [fA]; done) | (refine Lo.ne ?_ hne; (with_reducible repeat' constructor)))), ?_⟩; first | (refine .inl ?_; (focus (refine Tch.act ?_; (with_reducible repeat' constructor))); done) | (refine .inr ?_; ((with_reducible first | apply AdjR.ltCall r hne | apply AdjR.ltFin r hne | apply AdjR.ltPc r hne | apply AdjR.ltPop r hne); assumption; (focus (refine Lo.adjR ?_ (by assumption); (with_reducible repeat' constructor))); try (first | assumption | exact ne_setF _ _)); simp +decide [fW, fA, hs]; first | done | omega))
theorem release_Nx (hs : 0 < sl) (hne : x.t.fr ≠ []) (h : Adj sl th x) (e : x.f.fn = 2) : Nx sl th x (release x) := by
  have r := h.r hne
  rw [e] at r
  unfold release; dsimp only
  repeat' split
  all_goals (refine ⟨by ((with_reducible first | apply AdjR.pop | apply AdjR.allPc | apply AdjR.allS | apply AdjR.fin | apply AdjR.call | apply AdjR.all); (focus (refine Lo.adjR ?_ (by assumption); (with_reducible repeat' constructor))); try (first | decide | (refine .inr ?_; decide) | (refine .inl ?_; simp [fA]; done) | (refine Lo.ne ?_ hne; (with_reducible repeat' constructor)))), ?_⟩; first | (refine .inl ?_; (focus (refine Tch.act ?_; (with_reducible repeat' constructor))); done) | (refine .inr ?_; ((with_reducible first | apply AdjR.ltCall r hne | apply AdjR.ltFin r hne | apply AdjR.ltPc r hne | apply AdjR.ltPop r hne); assumption; (focus (refine Lo.adjR ?_ (by assumption); (with_reducible repeat' constructor))); try (first | assumption | exact ne_setF _ _)); simp +decide [fW, fA, hs]; first | done | omega))
theorem protect_Nx (hs : 0 < sl) (hne : x.t.fr ≠ []) (h : Adj sl th x) (e : x.f.fn = 3) : Nx sl th x (protect x) := by
  have r := h.r hne
  rw [e] at r
  unfold protect; dsimp only
  repeat' split
  all_goals (refine ⟨by ((with_reducible first | apply AdjR.pop | apply AdjR.allPc | apply AdjR.allS | apply AdjR.fin | apply AdjR.call | apply AdjR.all); (focus (refine Lo.adjR ?_ (by assumption); (with_reducible repeat' constructor))); try (first | decide | (refine .inr ?_; decide) | (refine .inl ?_; simp [fA]; done) | (refine Lo.ne ?_ hne; (with_reducible repeat' constructor)))), ?_⟩; first | (refine .inl ?_; (focus (refine Tch.act ?_; (with_reducible repeat' constructor))); done) | (refine .inr ?_; ((with_reducible first | apply AdjR.ltCall r hne | apply AdjR.ltFin r hne | apply AdjR.ltPc r hne | apply AdjR.ltPop r hne); assumption; (focus (refine Lo.adjR ?_ (by assumption); (with_reducible repeat' constructor))); try (first | assumption | exact ne_setF _ _)); simp +decide [fW, fA, hs]; first | done | omega))
theorem wipe_Nx (hsl : sl = x.m.p.slots) (hs : 0 < sl) (hne : x.t.fr ≠ []) (h : Adj sl th x) (e : x.f.fn = 4) : Nx sl th x (wipe x) := by
  have r := h.r hne
  rw [e] at r
  unfold wipe; dsimp only
  split
  · rename_i c
    refine ⟨by ((with_reducible first | apply AdjR.pop | apply AdjR.allPc | apply AdjR.allS | apply AdjR.fin | apply AdjR.call | apply AdjR.all); (focus (refine Lo.adjR ?_ (by assumption); (with_reducible repeat' constructor))); try (first | decide | (refine .inr ?_; decide) | (refine .inl ?_; simp [fA]; done) | (refine Lo.ne ?_ hne; (with_reducible repeat' constructor)))), .inr (AdjR.ltPop r hne rfl r hne ?_)⟩
    have c2 : fA sl th 4 x.f.pc = false := by simp [fA]; omega
    rw [c2]
    simp [fW]
  · (refine ⟨by ((with_reducible first | apply AdjR.pop | apply AdjR.allPc | apply AdjR.allS | apply AdjR.fin | apply AdjR.call | apply AdjR.all); (focus (refine Lo.adjR ?_ (by assumption); (with_reducible repeat' constructor))); try (first | decide | (refine .inr ?_; decide) | (refine .inl ?_; simp [fA]; done) | (refine Lo.ne ?_ hne; (with_reducible repeat' constructor)))), ?_⟩; first | (refine .inl ?_; (focus (refine Tch.act ?_; (with_reducible repeat' constructor))); done) | (refine .inr ?_; ((with_reducible first | apply AdjR.ltCall r hne | apply AdjR.ltFin r hne | apply AdjR.ltPc r hne | apply AdjR.ltPop r hne); assumption; (focus (refine Lo.adjR ?_ (by assumption); (with_reducible repeat' constructor))); try (first | assumption | exact ne_setF _ _)); simp +decide [fW, fA, hs]; first | done | omega))
theorem pop_rev (y : Run) (r : List Int) (h : y.t.fr ≠ []) : (y.pop r).t.fr.reverse = rst y := by
  show (y.t.pop r).fr.reverse = _
  unfold Thr.pop
  rw [if_neg h]
  rfl
theorem retire_Nx (ha : 0 < sl * th) (hne : x.t.fr ≠ []) (h : Adj sl th x) (e : x.f.fn = 5) : Nx sl th x (retire x) := by
  have r := h.r hne
  rw [e] at r
  unfold retire; dsimp only
  generalize hz : ((x.gh fun g => g.turn (s64 (x.f.g 0)) 1 2 2).re ((x.gh fun g => g.turn (s64 (x.f.g 0)) 1 2 2).t.retired ++ [s64 (x.f.g 0)])) = z
  have hzn : z.t.fr ≠ [] := by subst hz; exact hne
  have rz : AdjR sl th 5 (rst x) z := by subst hz; exact r.gh.re
  have hm : mu sl th x = 3 + muL sl th (rst x) := by
    rw [r.mu hne rfl]
    simp [fW, fA]
  have hp : (z.pop []).t.fr.reverse = rst x := by rw [pop_rev _ _ hzn]; exact rz.e
  split
  · refine ⟨Adj.push rz.pop ?_, .inr ?_⟩
    · rw [hp]
      cases hl : rst x with
      | nil => trivial
      | cons f l =>
        have o := r.o
        rw [hl] at o
        exact o
    · rw [mu_push, hm]
      simp [fW, fA, ha]
      omega
  · refine ⟨rz.pop, .inr ?_⟩
    rw [mu_pop _ hzn, rz.e, hm]
    omega
theorem AdjR.push {fn i : Int} {l : List Frm} {r : List Int} {y : Run} (h : AdjR sl th fn l y) (hne : y.t.fr ≠ []) (hd : fR i < fR fn) : Adj sl th (y.push i r) := by
  refine Adj.push (h.all hne) ?_
  rw [fr_rev hne]
  exact .inr (by rw [h.f]; exact hd)
theorem scan_Nx (hsl : sl = x.m.p.slots) (hth : th = x.m.p.c.threads) (hne : x.t.fr ≠ []) (h : Adj sl th x) (e : x.f.fn = 6) : Nx sl th x (scan x) := by
  have r := h.r hne
  rw [e] at r
  have h0 : ∀ y : Run, y = (if x.f.pc = 0 then x.fo [] else x) → AdjR sl th 6 (rst x) y ∧ y.t.fr ≠ [] ∧ y.f.pc = x.f.pc := by
    rintro y rfl
    split
    · exact ⟨r.fo, hne, rfl⟩
    · exact ⟨r, hne, rfl⟩
  unfold scan
  dsimp only
  generalize hy : (if x.f.pc = 0 then x.fo [] else x) = y
  obtain ⟨ry, hny, hpc⟩ := h0 y hy.symm
  rw [← hsl, ← hth]
  split
  · exact ⟨by ((with_reducible first | apply AdjR.pop | apply AdjR.allPc | apply AdjR.allS | apply AdjR.fin | apply AdjR.call | apply AdjR.all); (focus (refine Lo.adjR ?_ (by assumption); (with_reducible repeat' constructor))); try (first | decide | (refine .inr ?_; decide) | (refine .inl ?_; simp [fA]; done) | (refine Lo.ne ?_ hne; (with_reducible repeat' constructor)))), .inl (by (focus (refine Tch.act ?_; (with_reducible repeat' constructor))))⟩
  · rename_i c
    have hm : mu sl th x = 2 + muL sl th (rst x) := by
      rw [r.mu hne rfl]
      have c2 : fA sl th 6 x.f.pc = false := by simp [fA]; omega
      rw [c2]
      simp [fW]
    have hA : AdjR sl th 6 (rst x) (scanA y (sl * th)) ∧ (scanA y (sl * th)).t.fr ≠ [] := by
      unfold scanA
      split
      · exact ⟨by (focus (refine Lo.adjR ?_ (by assumption); (with_reducible repeat' constructor))), ne_setF _ _⟩
      · exact ⟨ry, hny⟩
    generalize scanA y (sl * th) = z at *
    obtain ⟨rz, hzn⟩ := hA
    unfold scanB
    split
    · refine ⟨rz.pop, .inr ?_⟩
      rw [mu_pop _ hzn, rz.e, hm]
      omega
    · rename_i n rest e2
      refine ⟨AdjR.push (l := rst x) (fn := 6) (by (focus (refine Lo.adjR ?_ (by assumption); (with_reducible repeat' constructor)))) hzn (by decide), .inr ?_⟩
      rw [mu_push, hm]
      simp [fW, fA]
      omega
theorem arenaDo_Nx (hs : 0 < sl) (hne : x.t.fr ≠ []) (h : Adj sl th x) (e : x.f.fn = 1 ∨ x.f.fn = 2) : Nx sl th x (arenaDo x) := by
  unfold arenaDo
  rw [if_neg hne]
  rcases e with e | e
  · rw [if_pos e]; exact alloc_Nx hs hne h e
  · rw [if_neg (by omega), if_pos e]; exact release_Nx hs hne h e
theorem hazardDo_Nx (hsl : sl = x.m.p.slots) (hth : th = x.m.p.c.threads) (hs : 0 < sl) (ha : 0 < sl * th) (hne : x.t.fr ≠ []) (h : Adj sl th x) (e : 1 ≤ x.f.fn ∧ x.f.fn ≤ 6) : Nx sl th x (hazardDo x) := by
  unfold hazardDo
  rw [if_neg hne]
  by_cases e3 : x.f.fn = 3
  · rw [if_pos e3]; exact protect_Nx hs hne h e3
  rw [if_neg e3]
  by_cases e4 : x.f.fn = 4
  · rw [if_pos e4]; exact wipe_Nx hsl hs hne h e4
  rw [if_neg e4]
  by_cases e5 : x.f.fn = 5
  · rw [if_pos e5]; exact retire_Nx ha hne h e5
  rw [if_neg e5]
  by_cases e6 : x.f.fn = 6
  · rw [if_pos e6]; exact scan_Nx hsl hth hne h e6
  rw [if_neg e6]
  exact arenaDo_Nx hs hne h (by omega)
end
end
section
open Mod
theorem lev_rng (c : Int) : ∀ (k i : Nat), (i : Int) ≤ lev c k i ∧ lev c k i ≤ i + k ∧ (1 ≤ k → (i : Int) + 1 ≤ lev c k i)
  | 0, i => by unfold lev; omega
  | k + 1, i => by
    have ih := lev_rng c k (i + 1)
    unfold lev
    split <;> omega
theorem lvl_rng (m : Mac) {n : Int} (h : 1 ≤ n) : 1 ≤ (m.lvl n).1 ∧ (m.lvl n).1 ≤ n := by
  unfold Mac.lvl
  rw [if_neg (by omega)]
  have := lev_rng m.take.1 n.toNat 0
  show 1 ≤ lev m.take.1 n.toNat 0 ∧ lev m.take.1 n.toNat 0 ≤ n
  omega
section
variable {x : Run} {L sl th : Int}
theorem f_drop1 (x : Run) (a : Int) : (x.drop1 a).2.f = x.f := rfl
theorem f_swingA (x : Run) (a b c : Int) : (x.swingA a b c).2.f = x.f := rfl
end
end
section
set_option maxHeartbeats 1000000
open Mod
section
variable {x : Run} {L sl th : Int}
end
end
section
open Mod
theorem s64_dec {n L : Int} (h : 0 ≤ s64 n ∧ s64 n < L) (hn : (s64 n).toNat ≠ 0) (hL : L ≤ 6) : 0 ≤ s64 (Mod.u64 (n - 1)) ∧ s64 (Mod.u64 (n - 1)) < L := by
  unfold s64 Mod.u64 at *
  repeat' split
  all_goals (split at h <;> split at hn <;> omega)
theorem s64_lev {L : Int} (hL : 1 ≤ L ∧ L ≤ 6) : 0 ≤ s64 (Mod.u64 (L - 1)) ∧ s64 (Mod.u64 (L - 1)) < L := by
  unfold s64 Mod.u64
  split <;> omega
section
variable {x : Run} {L sl th : Int}
theorem lvlu_rng (m : Mac) (hl : 1 ≤ L ∧ L ≤ 6) : 1 ≤ Mod.u64 (m.lvl L).1 ∧ Mod.u64 (m.lvl L).1 ≤ L := by
  have := lvl_rng m hl.1
  unfold Mod.u64
  omega
end
end
section
open Mod
theorem ac_pos {c : Mod.Cf} (h : okC c = true) : 0 < (planOf c).slots ∧ 0 < (planOf c).slots * c.threads ∧ (planOf c).slots * c.threads ≤ 84 ∧ (planOf c).slots ≤ 14 ∧ 1 ≤ c.level ∧ c.level ≤ 6 := by
  have B := planOf_B h
  have h1 : 2 ≤ (planOf c).slots ∧ (planOf c).slots ≤ 14 := B.sl
  have h2 : 1 ≤ c.threads ∧ c.threads ≤ 6 := B.th
  have h3 : 1 ≤ c.level ∧ c.level ≤ 6 := B.lv
  refine ⟨by omega, Int.mul_pos (by omega) (by omega), ?_, h1.2, h3.1, h3.2⟩
  exact Int.le_trans (Int.mul_le_mul h1.2 h2.2 (by omega) (by omega)) (by decide)
theorem RunOk.ok {Q : Mod.Cf → Frm → Prop} {c : Mod.Cf} {x : Run} {B : Nat} (h : RunOk Q c x B) (hB : B < 200000000) (hid : 0 ≤ x.id ∧ x.id ≤ 6) (hp : 0 ≤ x.f.pc ∧ x.f.pc ≤ 100) : Ok x := by
  have hP : x.m.mm.st.toNat + x.m.used.toNat + x.t.retired.length + x.t.found.length + x.t.fr.length ≤ B := h.P
  exact ⟨by omega, by omega, by omega, by omega, by omega, ⟨by omega, by omega⟩, hp⟩
theorem hz_pc {sl th : Int} {f : Frm} (h : HzOk sl th f) (h1 : 0 ≤ sl ∧ sl ≤ 14) (h2 : sl * th ≤ 84) : 0 ≤ f.pc ∧ f.pc ≤ 100 := by
  unfold HzOk at h
  omega
end
section
open Mod
theorem f_m (x : Run) (m : Mac) : ({ x with m := m } : Run).f = x.f := rfl
theorem f_swing (x : Run) (a b c : Int) (d : Bool) : (x.swing a b c d).2.f = x.f := rfl
theorem f_swingM (x : Run) (a b c : Int) (d : Bool) : (x.swingM a b c d).2.f = x.f := rfl
theorem f_guard (x : Run) (a b : Int) : (x.guard a b).f = x.f := rfl
section
variable {x : Run} {sl th : Int}
end
end
section
open Mod
def LnOk (L sl th : Int) (f : Frm) : Prop := HzOk sl th f ∨ f.r.length = 10 ∧ (f.fn = 31 ∧ (0 ≤ f.pc ∧ f.pc ≤ 18 ∨ f.pc = 90) ∧ (3 ≤ f.pc → f.pc ≤ 16 → 1 ≤ f.g 3 ∧ f.g 3 ≤ L) ∧ (12 ≤ f.pc → f.pc ≤ 15 → f.g 5 < f.g 3) ∨
  (f.fn = 32 ∨ f.fn = 33) ∧ (0 ≤ f.pc ∧ f.pc ≤ 14 ∨ f.pc = 90) ∨ f.fn = 34 ∧ (0 ≤ f.pc ∧ f.pc ≤ 5 ∨ f.pc = 90) ∨ f.fn = 35 ∧ 0 ≤ f.pc ∧ f.pc ≤ 2 ∨ f.fn = 36 ∧ 0 ≤ f.pc ∧ f.pc ≤ 6 ∨ f.fn = 30 ∧ 0 ≤ f.pc ∧ f.pc ≤ 6 ∧ (f.pc ≠ 0 → 0 ≤ s64 (f.g 2) ∧ s64 (f.g 2) < L))
theorem ln_new {L sl th fn : Int} {l : List Int} (h : 1 ≤ fn ∧ fn ≤ 6 ∨ 30 ≤ fn ∧ fn ≤ 36) (hs : 0 ≤ sl) (ht : 0 ≤ sl * th) : LnOk L sl th ⟨fn, 0, pad 10 l⟩ := by
  by_cases c : fn ≤ 6
  · exact .inl (hz_new (by omega) hs ht)
  · refine .inr ⟨pad_len _ _, ?_⟩
    dsimp only
    omega
theorem ln_hz {L sl th : Int} {f : Frm} (h : LnOk L sl th f) (e : ¬ (30 ≤ f.fn ∧ f.fn ≤ 36)) : HzOk sl th f := by
  unfold LnOk at h
  rcases h with h | ⟨_, h⟩
  · exact h
  · omega
theorem ln_up {L sl th : Int} {f : Frm} (h : LnOk L sl th f) (e : 30 ≤ f.fn ∧ f.fn ≤ 36) : f.r.length = 10 ∧ (f.fn = 31 ∧ (0 ≤ f.pc ∧ f.pc ≤ 18 ∨ f.pc = 90) ∧ (3 ≤ f.pc → f.pc ≤ 16 → 1 ≤ f.g 3 ∧ f.g 3 ≤ L) ∧ (12 ≤ f.pc → f.pc ≤ 15 → f.g 5 < f.g 3) ∨
  (f.fn = 32 ∨ f.fn = 33) ∧ (0 ≤ f.pc ∧ f.pc ≤ 14 ∨ f.pc = 90) ∨ f.fn = 34 ∧ (0 ≤ f.pc ∧ f.pc ≤ 5 ∨ f.pc = 90) ∨ f.fn = 35 ∧ 0 ≤ f.pc ∧ f.pc ≤ 2 ∨ f.fn = 36 ∧ 0 ≤ f.pc ∧ f.pc ≤ 6 ∨ f.fn = 30 ∧ 0 ≤ f.pc ∧ f.pc ≤ 6 ∧ (f.pc ≠ 0 → 0 ≤ s64 (f.g 2) ∧ s64 (f.g 2) < L)) := by
  unfold LnOk HzOk at h
  rcases h with h | h
  · omega
  · exact h
theorem ln_31 {L sl th : Int} {f : Frm} (h : LnOk L sl th f) (e : f.fn = 31) : f.r.length = 10 ∧ (0 ≤ f.pc ∧ f.pc ≤ 18 ∨ f.pc = 90) ∧ (3 ≤ f.pc → f.pc ≤ 16 → 1 ≤ f.g 3 ∧ f.g 3 ≤ L) ∧ (12 ≤ f.pc → f.pc ≤ 15 → f.g 5 < f.g 3) := by
  have h := ln_up h (by omega)
  refine ⟨h.1, ?_⟩
  rcases h.2 with h1 | h1 | h1 | h1 | h1 | h1
  · exact h1.2
  all_goals omega
theorem ln_30 {L sl th : Int} {f : Frm} (h : LnOk L sl th f) (e : f.fn = 30) : f.r.length = 10 ∧ 0 ≤ f.pc ∧ f.pc ≤ 6 ∧ (f.pc ≠ 0 → 0 ≤ s64 (f.g 2) ∧ s64 (f.g 2) < L) := by
  have h := ln_up h (by omega)
  refine ⟨h.1, ?_⟩
  rcases h.2 with h1 | h1 | h1 | h1 | h1 | h1
  · omega
  · omega
  · omega
  · omega
  · omega
  · exact h1.2
section
variable {x : Run} {L sl th : Int}
theorem ln31_of {f : Frm} (len : f.r.length = 10) (e : f.fn = 31) (hp : 0 ≤ f.pc ∧ f.pc ≤ 18 ∨ f.pc = 90) (h3 : 3 ≤ f.pc → f.pc ≤ 16 → 1 ≤ f.g 3 ∧ f.g 3 ≤ L) (h5 : 12 ≤ f.pc → f.pc ≤ 15 → f.g 5 < f.g 3) : LnOk L sl th f := .inr ⟨len, .inl ⟨e, hp, h3, h5⟩⟩
theorem ln32_of {f : Frm} (len : f.r.length = 10) (e : f.fn = 32 ∨ f.fn = 33) (hp : 0 ≤ f.pc ∧ f.pc ≤ 14 ∨ f.pc = 90) : LnOk L sl th f := .inr ⟨len, .inr (.inl ⟨e, hp⟩)⟩
theorem ln34_of {f : Frm} (len : f.r.length = 10) (e : f.fn = 34) (hp : 0 ≤ f.pc ∧ f.pc ≤ 5 ∨ f.pc = 90) : LnOk L sl th f := .inr ⟨len, .inr (.inr (.inl ⟨e, hp⟩))⟩
theorem ln35_of {f : Frm} (len : f.r.length = 10) (e : f.fn = 35) (hp : 0 ≤ f.pc ∧ f.pc ≤ 2) : LnOk L sl th f := .inr ⟨len, .inr (.inr (.inr (.inl ⟨e, hp.1, hp.2⟩)))⟩
theorem ln36_of {f : Frm} (len : f.r.length = 10) (e : f.fn = 36) (hp : 0 ≤ f.pc ∧ f.pc ≤ 6) : LnOk L sl th f := .inr ⟨len, .inr (.inr (.inr (.inr (.inl ⟨e, hp.1, hp.2⟩))))⟩
structure Fin30 (L : Int) (f : Frm) : Prop where
  len : f.r.length = 10
  fn : f.fn = 30
  g : 0 ≤ s64 (f.g 2) ∧ s64 (f.g 2) < L
theorem ln30_of {f : Frm} (len : f.r.length = 10) (e : f.fn = 30) (hp : 0 ≤ f.pc ∧ f.pc ≤ 6) (hg : 0 ≤ s64 (f.g 2) ∧ s64 (f.g 2) < L) : LnOk L sl th f := .inr ⟨len, .inr (.inr (.inr (.inr (.inr ⟨e, hp.1, hp.2, fun _ => hg⟩))))⟩
theorem lSettle_All {y : Run} (hL : L ≤ 6) (r : Rest (LnOk L sl th) y) (o : Fin30 L y.f) : AllF (LnOk L sl th) (lSettle y) := by
  obtain ⟨len, e, g⟩ := o
  unfold lSettle; dsimp only
  split
  · ((repeat (with_reducible first | apply AllF.load | apply AllF.store | apply AllF.cas | apply AllF.add | apply AllF.swing | apply AllF.swingA | apply AllF.swingM | apply AllF.drop1 | apply AllF.guard | apply AllF.gh | apply AllF.fo | apply AllF.re | apply AllF.setPl)); first | with_reducible assumption | ((with_reducible first | apply Rest.pop | apply Rest.call | apply Rest.allPc | apply Rest.allS | apply Rest.fin); (focus (refine Lo.rest ?_ (by assumption); (with_reducible repeat' constructor)))))
  · rename_i c
    ((repeat (with_reducible first | apply AllF.load | apply AllF.store | apply AllF.cas | apply AllF.add | apply AllF.swing | apply AllF.swingA | apply AllF.swingM | apply AllF.drop1 | apply AllF.guard | apply AllF.gh | apply AllF.fo | apply AllF.re | apply AllF.setPl)); first | with_reducible assumption | ((with_reducible first | apply Rest.pop | apply Rest.call | apply Rest.allPc | apply Rest.allS | apply Rest.fin); (focus (refine Lo.rest ?_ (by assumption); (with_reducible repeat' constructor)))))
    rw [f_s]
    refine ln30_of (by simp only [at_len, s_len]; assumption) (by simp only [fn_at, fn_s]; assumption) ⟨by show (0 : Int) ≤ 1; omega, by show (1 : Int) ≤ 6; omega⟩ ?_
    have e1 : (((y.setPl (y.t.pred.set (s64 (y.f.g 2)).toNat (y.f.g 3)) (y.t.succ.set (s64 (y.f.g 2)).toNat (wptr (y.f.g 4))) (y.t.word.set (s64 (y.f.g 2)).toNat (y.f.g 4))).f.s 2 (Mod.u64 (y.f.g 2 - 1))).at 1).g 2 = Mod.u64 (y.f.g 2 - 1) := by
      rw [g_at]
      exact g_s (show (y.f).r.length = 10 from len) (by decide) _
    rw [e1]
    exact s64_dec g c hL
theorem lPass_All {y : Run} (r : Rest (LnOk L sl th) y) (o : Fin30 L y.f) : AllF (LnOk L sl th) (lPass y) := by
  obtain ⟨len, e, g⟩ := o
  unfold lPass
  ((repeat (with_reducible first | apply AllF.load | apply AllF.store | apply AllF.cas | apply AllF.add | apply AllF.swing | apply AllF.swingA | apply AllF.swingM | apply AllF.drop1 | apply AllF.guard | apply AllF.gh | apply AllF.fo | apply AllF.re | apply AllF.setPl)); first | with_reducible assumption | ((with_reducible first | apply Rest.pop | apply Rest.call | apply Rest.allPc | apply Rest.allS | apply Rest.fin); (focus (refine Lo.rest ?_ (by assumption); (with_reducible repeat' constructor)))))
  rw [f_s]
  exact ln30_of (by simp only [at_len, s_len]; assumption) (by simp only [fn_at, fn_s]; assumption) ⟨by show (0 : Int) ≤ 1; omega, by show (1 : Int) ≤ 6; omega⟩ (by rw [g_at, g_s_ne _ (by decide)]; exact g)
theorem lJudge_All (hL : L ≤ 6) (r : Rest (LnOk L sl th) x) (o : Fin30 L x.f) : AllF (LnOk L sl th) (lJudge x) := by
  obtain ⟨len, e, g⟩ := o
  unfold lJudge; dsimp only
  repeat' split
  · ((repeat (with_reducible first | apply AllF.load | apply AllF.store | apply AllF.cas | apply AllF.add | apply AllF.swing | apply AllF.swingA | apply AllF.swingM | apply AllF.drop1 | apply AllF.guard | apply AllF.gh | apply AllF.fo | apply AllF.re | apply AllF.setPl)); first | with_reducible assumption | ((with_reducible first | apply Rest.pop | apply Rest.call | apply Rest.allPc | apply Rest.allS | apply Rest.fin); (focus (refine Lo.rest ?_ (by assumption); (with_reducible repeat' constructor)))))
    exact .inr ⟨by rw [at_len]; exact len, .inr (.inr (.inr (.inr (.inr ⟨e, by show (0 : Int) ≤ 0; omega, by show (0 : Int) ≤ 6; omega, fun hh => absurd rfl hh⟩))))⟩
  · exact lPass_All (by (focus (refine Lo.rest ?_ (by assumption); (with_reducible repeat' constructor)))) ⟨by rw [f_s, s_len]; exact len, by rw [f_s]; exact e, by rw [f_s, g_s_ne _ (by decide)]; exact g⟩
  · ((repeat (with_reducible first | apply AllF.load | apply AllF.store | apply AllF.cas | apply AllF.add | apply AllF.swing | apply AllF.swingA | apply AllF.swingM | apply AllF.drop1 | apply AllF.guard | apply AllF.gh | apply AllF.fo | apply AllF.re | apply AllF.setPl)); first | with_reducible assumption | ((with_reducible first | apply Rest.pop | apply Rest.call | apply Rest.allPc | apply Rest.allS | apply Rest.fin); (focus (refine Lo.rest ?_ (by assumption); (with_reducible repeat' constructor)))))
    ((try simp only [f_m, f_pc, f_s, f_load, f_store, f_cas, f_add, f_gh, f_drop1, f_swing, f_swingA, f_swingM, f_guard]); refine ln30_of (by simp only [at_len, s_len]; assumption) (by simp only [fn_at, fn_s]; assumption) (by simp only [pc_at, pc_s]; omega) ?_; first | assumption | (simp +decide (disch := decide) only [g_at, g_s_ne]; assumption))
  · ((repeat (with_reducible first | apply AllF.load | apply AllF.store | apply AllF.cas | apply AllF.add | apply AllF.swing | apply AllF.swingA | apply AllF.swingM | apply AllF.drop1 | apply AllF.guard | apply AllF.gh | apply AllF.fo | apply AllF.re | apply AllF.setPl)); first | with_reducible assumption | ((with_reducible first | apply Rest.pop | apply Rest.call | apply Rest.allPc | apply Rest.allS | apply Rest.fin); (focus (refine Lo.rest ?_ (by assumption); (with_reducible repeat' constructor)))))
    ((try simp only [f_m, f_pc, f_s, f_load, f_store, f_cas, f_add, f_gh, f_drop1, f_swing, f_swingA, f_swingM, f_guard]); refine ln30_of (by simp only [at_len, s_len]; assumption) (by simp only [fn_at, fn_s]; assumption) (by simp only [pc_at, pc_s]; omega) ?_; first | assumption | (simp +decide (disch := decide) only [g_at, g_s_ne]; assumption))
theorem lStep_All (hL : 1 ≤ L ∧ L ≤ 6) (hl : L = x.m.p.c.level) (h : AllF (LnOk L sl th) x) (o : LnOk L sl th x.f) (e : x.f.fn = 30) : AllF (LnOk L sl th) (lStep x) := by
  have r := h.rest
  obtain ⟨len, o1, o2, o3⟩ := ln_30 o e
  unfold lStep; dsimp only
  split
  · ((repeat (with_reducible first | apply AllF.load | apply AllF.store | apply AllF.cas | apply AllF.add | apply AllF.swing | apply AllF.swingA | apply AllF.swingM | apply AllF.drop1 | apply AllF.guard | apply AllF.gh | apply AllF.fo | apply AllF.re | apply AllF.setPl)); first | with_reducible assumption | ((with_reducible first | apply Rest.pop | apply Rest.call | apply Rest.allPc | apply Rest.allS | apply Rest.fin); (focus (refine Lo.rest ?_ (by assumption); (with_reducible repeat' constructor)))))
    rw [f_s, f_s, f_s, f_s]
    refine ln30_of (by simp only [at_len, s_len]; assumption) (by simp only [fn_at, fn_s]; assumption) ⟨by show (0 : Int) ≤ 1; omega, by show (1 : Int) ≤ 6; omega⟩ ?_
    rw [g_at, g_s (by rw [s_len, s_len, s_len]; exact len) (by decide)]
    have e2 : (x.load 1).2.m.p.c.level = L := by rw [hl]; exact congrArg (fun p : Pl => p.c.level) (St.fix (St.load (St.refl x) : St 1 x (x.load 1).2)).p
    first | rw [← hl] | rw [e2] | skip
    exact s64_lev hL
  rename_i c
  have g := o3 c
  have o9 : Fin30 L x.f := ⟨len, e, g⟩
  repeat' split
  all_goals first
    | exact lJudge_All hL.2 r o9
    | exact lSettle_All hL.2 (by (focus (refine Lo.rest ?_ (by assumption); (with_reducible repeat' constructor)))) ⟨by rw [f_pc, f_s]; exact (s_len _ _ _).trans len, by rw [f_pc, f_s]; exact e, by rw [f_pc, f_s, g_at, g_s_ne _ (by decide)]; exact g⟩
    | exact lSettle_All hL.2 (by (focus (refine Lo.rest ?_ (by assumption); (with_reducible repeat' constructor)))) ⟨len, e, g⟩
    | exact lPass_All (by (focus (refine Lo.rest ?_ (by assumption); (with_reducible repeat' constructor)))) ⟨len, e, g⟩
    | exact lPass_All (by (focus (refine Lo.rest ?_ (by assumption); (with_reducible repeat' constructor)))) ⟨by rw [f_load, f_pc]; exact len, by rw [f_load, f_pc]; exact e, by rw [f_load, f_pc]; exact g⟩
    | skip
  all_goals ((repeat (with_reducible first | apply AllF.load | apply AllF.store | apply AllF.cas | apply AllF.add | apply AllF.swing | apply AllF.swingA | apply AllF.swingM | apply AllF.drop1 | apply AllF.guard | apply AllF.gh | apply AllF.fo | apply AllF.re | apply AllF.setPl)); first | with_reducible assumption | ((with_reducible first | apply Rest.pop | apply Rest.call | apply Rest.allPc | apply Rest.allS | apply Rest.fin); (focus (refine Lo.rest ?_ (by assumption); (with_reducible repeat' constructor)))))
  all_goals ((try simp only [f_m, f_pc, f_s, f_load, f_store, f_cas, f_add, f_gh, f_drop1, f_swing, f_swingA, f_swingM, f_guard]); refine ln30_of (by simp only [at_len, s_len]; assumption) (by simp only [fn_at, fn_s]; assumption) (by simp only [pc_at, pc_s]; omega) ?_; first | assumption | (simp +decide (disch := decide) only [g_at, g_s_ne]; assumption))
theorem tdStep_All (h : AllF (LnOk L sl th) x) (s0 : 0 ≤ sl) (t0 : 0 ≤ sl * th) (len : x.f.r.length = 10) (e : x.f.fn = 34) : AllF (LnOk L sl th) (tdStep x) := by
  have r := h.rest
  unfold tdStep; dsimp only
  repeat' split
  all_goals ((repeat (with_reducible first | apply AllF.load | apply AllF.store | apply AllF.cas | apply AllF.add | apply AllF.swing | apply AllF.swingA | apply AllF.swingM | apply AllF.drop1 | apply AllF.guard | apply AllF.gh | apply AllF.fo | apply AllF.re | apply AllF.setPl)); first | with_reducible assumption | ((with_reducible first | apply Rest.pop | apply Rest.call | apply Rest.allPc | apply Rest.allS | apply Rest.fin); (focus (refine Lo.rest ?_ (by assumption); (with_reducible repeat' constructor)))))
  all_goals first | (with_reducible apply ln_new; omega; assumption; assumption) | ((try simp only [f_m, f_pc, f_s, f_load, f_store, f_cas, f_add, f_gh, f_drop1, f_swing, f_swingA, f_swingM, f_guard]); refine ln34_of (by simp only [at_len, s_len]; assumption) (by simp only [fn_at, fn_s]; assumption) (by simp only [pc_at, pc_s, or_true]; first | done | omega))
theorem ctStep_All (h : AllF (LnOk L sl th) x) (s0 : 0 ≤ sl) (t0 : 0 ≤ sl * th) (len : x.f.r.length = 10) (e : x.f.fn = 35) : AllF (LnOk L sl th) (ctStep x) := by
  have r := h.rest
  unfold ctStep; dsimp only
  repeat' split
  all_goals ((repeat (with_reducible first | apply AllF.load | apply AllF.store | apply AllF.cas | apply AllF.add | apply AllF.swing | apply AllF.swingA | apply AllF.swingM | apply AllF.drop1 | apply AllF.guard | apply AllF.gh | apply AllF.fo | apply AllF.re | apply AllF.setPl)); first | with_reducible assumption | ((with_reducible first | apply Rest.pop | apply Rest.call | apply Rest.allPc | apply Rest.allS | apply Rest.fin); (focus (refine Lo.rest ?_ (by assumption); (with_reducible repeat' constructor)))))
  all_goals first | (with_reducible apply ln_new; omega; assumption; assumption) | ((try simp only [f_m, f_pc, f_s, f_load, f_store, f_cas, f_add, f_gh, f_drop1, f_swing, f_swingA, f_swingM, f_guard]); refine ln35_of (by simp only [at_len, s_len]; assumption) (by simp only [fn_at, fn_s]; assumption) (by simp only [pc_at, pc_s, or_true]; first | done | omega))
theorem mvWalk_All (h : AllF (LnOk L sl th) x) (s0 : 0 ≤ sl) (t0 : 0 ≤ sl * th) (len : x.f.r.length = 10) (e : x.f.fn = 36) : AllF (LnOk L sl th) (mvWalk x) := by
  have r := h.rest
  unfold mvWalk mvDown; dsimp only
  repeat' split
  all_goals ((repeat (with_reducible first | apply AllF.load | apply AllF.store | apply AllF.cas | apply AllF.add | apply AllF.swing | apply AllF.swingA | apply AllF.swingM | apply AllF.drop1 | apply AllF.guard | apply AllF.gh | apply AllF.fo | apply AllF.re | apply AllF.setPl)); first | with_reducible assumption | ((with_reducible first | apply Rest.pop | apply Rest.call | apply Rest.allPc | apply Rest.allS | apply Rest.fin); (focus (refine Lo.rest ?_ (by assumption); (with_reducible repeat' constructor)))))
  all_goals first | (with_reducible apply ln_new; omega; assumption; assumption) | ((try simp only [f_m, f_pc, f_s, f_load, f_store, f_cas, f_add, f_gh, f_drop1, f_swing, f_swingA, f_swingM, f_guard]); refine ln36_of (by simp only [at_len, s_len]; assumption) (by simp only [fn_at, fn_s]; assumption) (by simp only [pc_at, pc_s, or_true]; first | done | omega))
theorem mvStep_All (h : AllF (LnOk L sl th) x) (s0 : 0 ≤ sl) (t0 : 0 ≤ sl * th) (len : x.f.r.length = 10) (e : x.f.fn = 36) : AllF (LnOk L sl th) (mvStep x) := by
  have r := h.rest
  unfold mvStep mvDown; dsimp only
  repeat' split
  all_goals first | exact mvWalk_All h s0 t0 len e | skip
  all_goals ((repeat (with_reducible first | apply AllF.load | apply AllF.store | apply AllF.cas | apply AllF.add | apply AllF.swing | apply AllF.swingA | apply AllF.swingM | apply AllF.drop1 | apply AllF.guard | apply AllF.gh | apply AllF.fo | apply AllF.re | apply AllF.setPl)); first | with_reducible assumption | ((with_reducible first | apply Rest.pop | apply Rest.call | apply Rest.allPc | apply Rest.allS | apply Rest.fin); (focus (refine Lo.rest ?_ (by assumption); (with_reducible repeat' constructor)))))
  all_goals first | (with_reducible apply ln_new; omega; assumption; assumption) | ((try simp only [f_m, f_pc, f_s, f_load, f_store, f_cas, f_add, f_gh, f_drop1, f_swing, f_swingA, f_swingM, f_guard]); refine ln36_of (by simp only [at_len, s_len]; assumption) (by simp only [fn_at, fn_s]; assumption) (by simp only [pc_at, pc_s, or_true]; first | done | omega))
theorem liLay_All (h : AllF (LnOk L sl th) x) (s0 : 0 ≤ sl) (t0 : 0 ≤ sl * th) (len : x.f.r.length = 10) (e : x.f.fn = 31) (o1 : 0 ≤ x.f.pc ∧ x.f.pc ≤ 18 ∨ x.f.pc = 90) (o2 : 3 ≤ x.f.pc → x.f.pc ≤ 16 → 1 ≤ x.f.g 3 ∧ x.f.g 3 ≤ L) (o3 : 12 ≤ x.f.pc → x.f.pc ≤ 15 → x.f.g 5 < x.f.g 3) (hp : 3 ≤ x.f.pc ∧ x.f.pc ≤ 6) : AllF (LnOk L sl th) (liLay x) := by
  have r := h.rest
  unfold liLay; dsimp only
  repeat' split
  all_goals ((repeat (with_reducible first | apply AllF.load | apply AllF.store | apply AllF.cas | apply AllF.add | apply AllF.swing | apply AllF.swingA | apply AllF.swingM | apply AllF.drop1 | apply AllF.guard | apply AllF.gh | apply AllF.fo | apply AllF.re | apply AllF.setPl)); first | with_reducible assumption | ((with_reducible first | apply Rest.pop | apply Rest.call | apply Rest.allPc | apply Rest.allS | apply Rest.fin); (focus (refine Lo.rest ?_ (by assumption); (with_reducible repeat' constructor)))))
  all_goals first | (with_reducible apply ln_new; omega; assumption; assumption) | ((try simp only [f_m, f_pc, f_s, f_load, f_store, f_cas, f_add, f_gh, f_drop1, f_swing, f_swingA, f_swingM, f_guard]); refine ln31_of (by simp only [at_len, s_len]; assumption) (by simp only [fn_at, fn_s]; assumption) ?_ ?_ ?_ <;> intros <;> (try simp +decide (disch := first | decide | assumption | (simp only [at_len, s_len]; assumption)) only [fn_at, fn_s, pc_at, pc_s, g_at, g_s_ne, g_s, at_len, s_len] at *) <;> omega)
theorem liEnter_All (h : AllF (LnOk L sl th) x) (s0 : 0 ≤ sl) (t0 : 0 ≤ sl * th) (len : x.f.r.length = 10) (e : x.f.fn = 31) (o1 : 0 ≤ x.f.pc ∧ x.f.pc ≤ 18 ∨ x.f.pc = 90) (o2 : 3 ≤ x.f.pc → x.f.pc ≤ 16 → 1 ≤ x.f.g 3 ∧ x.f.g 3 ≤ L) (o3 : 12 ≤ x.f.pc → x.f.pc ≤ 15 → x.f.g 5 < x.f.g 3) (hp : 7 ≤ x.f.pc ∧ x.f.pc ≤ 10) : AllF (LnOk L sl th) (liEnter x) := by
  have r := h.rest
  unfold liEnter; dsimp only
  repeat' split
  all_goals first | exact h | ((repeat (with_reducible first | apply AllF.load | apply AllF.store | apply AllF.cas | apply AllF.add | apply AllF.swing | apply AllF.swingA | apply AllF.swingM | apply AllF.drop1 | apply AllF.guard | apply AllF.gh | apply AllF.fo | apply AllF.re | apply AllF.setPl)); first | with_reducible assumption | ((with_reducible first | apply Rest.pop | apply Rest.call | apply Rest.allPc | apply Rest.allS | apply Rest.fin); (focus (refine Lo.rest ?_ (by assumption); (with_reducible repeat' constructor))))) | skip
  all_goals first | (with_reducible apply ln_new; omega; assumption; assumption) | ((try simp only [f_m, f_pc, f_s, f_load, f_store, f_cas, f_add, f_gh, f_drop1, f_swing, f_swingA, f_swingM, f_guard]); refine ln31_of (by simp only [at_len, s_len]; assumption) (by simp only [fn_at, fn_s]; assumption) ?_ ?_ ?_ <;> intros <;> (try simp +decide (disch := first | decide | assumption | (simp only [at_len, s_len]; assumption)) only [fn_at, fn_s, pc_at, pc_s, g_at, g_s_ne, g_s, at_len, s_len] at *) <;> omega)
theorem liClimb_All (h : AllF (LnOk L sl th) x) (s0 : 0 ≤ sl) (t0 : 0 ≤ sl * th) (len : x.f.r.length = 10) (e : x.f.fn = 31) (o1 : 0 ≤ x.f.pc ∧ x.f.pc ≤ 18 ∨ x.f.pc = 90) (o2 : 3 ≤ x.f.pc → x.f.pc ≤ 16 → 1 ≤ x.f.g 3 ∧ x.f.g 3 ≤ L) (o3 : 12 ≤ x.f.pc → x.f.pc ≤ 15 → x.f.g 5 < x.f.g 3) (hp : 11 ≤ x.f.pc ∧ x.f.pc ≤ 14) : AllF (LnOk L sl th) (liClimb x) := by
  have r := h.rest
  unfold liClimb; dsimp only
  repeat' split
  all_goals first | exact h | ((repeat (with_reducible first | apply AllF.load | apply AllF.store | apply AllF.cas | apply AllF.add | apply AllF.swing | apply AllF.swingA | apply AllF.swingM | apply AllF.drop1 | apply AllF.guard | apply AllF.gh | apply AllF.fo | apply AllF.re | apply AllF.setPl)); first | with_reducible assumption | ((with_reducible first | apply Rest.pop | apply Rest.call | apply Rest.allPc | apply Rest.allS | apply Rest.fin); (focus (refine Lo.rest ?_ (by assumption); (with_reducible repeat' constructor))))) | skip
  all_goals first | (with_reducible apply ln_new; omega; assumption; assumption) | ((try simp only [f_m, f_pc, f_s, f_load, f_store, f_cas, f_add, f_gh, f_drop1, f_swing, f_swingA, f_swingM, f_guard]); refine ln31_of (by simp only [at_len, s_len]; assumption) (by simp only [fn_at, fn_s]; assumption) ?_ ?_ ?_ <;> intros <;> (try simp +decide (disch := first | decide | assumption | (simp only [at_len, s_len]; assumption)) only [fn_at, fn_s, pc_at, pc_s, g_at, g_s_ne, g_s, at_len, s_len] at *) <;> omega)
theorem liJoin_All (h : AllF (LnOk L sl th) x) (s0 : 0 ≤ sl) (t0 : 0 ≤ sl * th) (len : x.f.r.length = 10) (e : x.f.fn = 31) (o1 : 0 ≤ x.f.pc ∧ x.f.pc ≤ 18 ∨ x.f.pc = 90) (o2 : 3 ≤ x.f.pc → x.f.pc ≤ 16 → 1 ≤ x.f.g 3 ∧ x.f.g 3 ≤ L) (o3 : 12 ≤ x.f.pc → x.f.pc ≤ 15 → x.f.g 5 < x.f.g 3) (hp : 15 ≤ x.f.pc ∧ x.f.pc ≤ 18) : AllF (LnOk L sl th) (liJoin x) := by
  have r := h.rest
  unfold liJoin; dsimp only
  repeat' split
  all_goals ((repeat (with_reducible first | apply AllF.load | apply AllF.store | apply AllF.cas | apply AllF.add | apply AllF.swing | apply AllF.swingA | apply AllF.swingM | apply AllF.drop1 | apply AllF.guard | apply AllF.gh | apply AllF.fo | apply AllF.re | apply AllF.setPl)); first | with_reducible assumption | ((with_reducible first | apply Rest.pop | apply Rest.call | apply Rest.allPc | apply Rest.allS | apply Rest.fin); (focus (refine Lo.rest ?_ (by assumption); (with_reducible repeat' constructor)))))
  all_goals first | (with_reducible apply ln_new; omega; assumption; assumption) | ((try simp only [f_m, f_pc, f_s, f_load, f_store, f_cas, f_add, f_gh, f_drop1, f_swing, f_swingA, f_swingM, f_guard]); refine ln31_of (by simp only [at_len, s_len]; assumption) (by simp only [fn_at, fn_s]; assumption) ?_ ?_ ?_ <;> intros <;> (try simp +decide (disch := first | decide | assumption | (simp only [at_len, s_len]; assumption)) only [fn_at, fn_s, pc_at, pc_s, g_at, g_s_ne, g_s, at_len, s_len] at *) <;> omega)
theorem liTake_All (h : AllF (LnOk L sl th) x) (hL : L = x.m.p.c.level) (hl : 1 ≤ L ∧ L ≤ 6) (s0 : 0 ≤ sl) (t0 : 0 ≤ sl * th) (len : x.f.r.length = 10) (e : x.f.fn = 31) (hp : 0 ≤ x.f.pc ∧ x.f.pc ≤ 2) : AllF (LnOk L sl th) (liTake x) := by
  have r := h.rest
  unfold liTake; dsimp only
  repeat' split
  · ((repeat (with_reducible first | apply AllF.load | apply AllF.store | apply AllF.cas | apply AllF.add | apply AllF.swing | apply AllF.swingA | apply AllF.swingM | apply AllF.drop1 | apply AllF.guard | apply AllF.gh | apply AllF.fo | apply AllF.re | apply AllF.setPl)); first | with_reducible assumption | ((with_reducible first | apply Rest.pop | apply Rest.call | apply Rest.allPc | apply Rest.allS | apply Rest.fin); (focus (refine Lo.rest ?_ (by assumption); (with_reducible repeat' constructor)))))
    · ((try simp only [f_m, f_pc, f_s, f_load, f_store, f_cas, f_add, f_gh, f_drop1, f_swing, f_swingA, f_swingM, f_guard]); refine ln31_of (by simp only [at_len, s_len]; assumption) (by simp only [fn_at, fn_s]; assumption) ?_ ?_ ?_ <;> intros <;> (try simp +decide (disch := first | decide | assumption | (simp only [at_len, s_len]; assumption)) only [fn_at, fn_s, pc_at, pc_s, g_at, g_s_ne, g_s, at_len, s_len] at *) <;> omega)
    · exact ln_new (by omega) s0 t0
  · ((repeat (with_reducible first | apply AllF.load | apply AllF.store | apply AllF.cas | apply AllF.add | apply AllF.swing | apply AllF.swingA | apply AllF.swingM | apply AllF.drop1 | apply AllF.guard | apply AllF.gh | apply AllF.fo | apply AllF.re | apply AllF.setPl)); first | with_reducible assumption | ((with_reducible first | apply Rest.pop | apply Rest.call | apply Rest.allPc | apply Rest.allS | apply Rest.fin); (focus (refine Lo.rest ?_ (by assumption); (with_reducible repeat' constructor)))))
    ((try simp only [f_m, f_pc, f_s, f_load, f_store, f_cas, f_add, f_gh, f_drop1, f_swing, f_swingA, f_swingM, f_guard]); refine ln31_of (by simp only [at_len, s_len]; assumption) (by simp only [fn_at, fn_s]; assumption) ?_ ?_ ?_ <;> intros <;> (try simp +decide (disch := first | decide | assumption | (simp only [at_len, s_len]; assumption)) only [fn_at, fn_s, pc_at, pc_s, g_at, g_s_ne, g_s, at_len, s_len] at *) <;> omega)
  · ((repeat (with_reducible first | apply AllF.load | apply AllF.store | apply AllF.cas | apply AllF.add | apply AllF.swing | apply AllF.swingA | apply AllF.swingM | apply AllF.drop1 | apply AllF.guard | apply AllF.gh | apply AllF.fo | apply AllF.re | apply AllF.setPl)); first | with_reducible assumption | ((with_reducible first | apply Rest.pop | apply Rest.call | apply Rest.allPc | apply Rest.allS | apply Rest.fin); (focus (refine Lo.rest ?_ (by assumption); (with_reducible repeat' constructor)))))
    · ((try simp only [f_m, f_pc, f_s, f_load, f_store, f_cas, f_add, f_gh, f_drop1, f_swing, f_swingA, f_swingM, f_guard]); refine ln31_of (by simp only [at_len, s_len]; assumption) (by simp only [fn_at, fn_s]; assumption) ?_ ?_ ?_ <;> intros <;> (try simp +decide (disch := first | decide | assumption | (simp only [at_len, s_len]; assumption)) only [fn_at, fn_s, pc_at, pc_s, g_at, g_s_ne, g_s, at_len, s_len] at *) <;> omega)
    · exact ln_new (by omega) s0 t0
  · ((repeat (with_reducible first | apply AllF.load | apply AllF.store | apply AllF.cas | apply AllF.add | apply AllF.swing | apply AllF.swingA | apply AllF.swingM | apply AllF.drop1 | apply AllF.guard | apply AllF.gh | apply AllF.fo | apply AllF.re | apply AllF.setPl)); first | with_reducible assumption | ((with_reducible first | apply Rest.pop | apply Rest.call | apply Rest.allPc | apply Rest.allS | apply Rest.fin); (focus (refine Lo.rest ?_ (by assumption); (with_reducible repeat' constructor)))))
    · ((try simp only [f_m, f_pc, f_s, f_load, f_store, f_cas, f_add, f_gh, f_drop1, f_swing, f_swingA, f_swingM, f_guard]); refine ln31_of (by simp only [at_len, s_len]; assumption) (by simp only [fn_at, fn_s]; assumption) ?_ ?_ ?_ <;> intros <;> (try simp +decide (disch := first | decide | assumption | (simp only [at_len, s_len]; assumption)) only [fn_at, fn_s, pc_at, pc_s, g_at, g_s_ne, g_s, at_len, s_len] at *) <;> omega)
    · exact ln_new (by omega) s0 t0
  · refine Rest.allPc (Rest.s (Rest.m (by (focus (refine Lo.rest ?_ (by assumption); (with_reducible repeat' constructor)))))) ?_
    rw [f_s]
    have ef : ∀ m : Mac, (⟨m, ((x.add 3 1).2.s 4 (ordMake (u32 (x.f.g 0)) (u32 (x.add 3 1).1))).t, ((x.add 3 1).2.s 4 (ordMake (u32 (x.f.g 0)) (u32 (x.add 3 1).1))).id⟩ : Run).f = x.f.s 4 (ordMake (u32 (x.f.g 0)) (u32 (x.add 3 1).1)) := fun m => by
      show ((x.add 3 1).2.s 4 (ordMake (u32 (x.f.g 0)) (u32 (x.add 3 1).1))).f = _
      rw [f_s]
      rfl
    rw [ef]
    have hv := lvlu_rng ((x.add 3 1).2.s 4 (ordMake (u32 (x.f.g 0)) (u32 (x.add 3 1).1))).m hl
    have ep : ((x.add 3 1).2.s 4 (ordMake (u32 (x.f.g 0)) (u32 (x.add 3 1).1))).m.p.c.level = L := by rw [hL]; exact congrArg (fun p : Pl => p.c.level) (St.fix (St.s (St.add (St.refl x)) : St 2 x ((x.add 3 1).2.s 4 (ordMake (u32 (x.f.g 0)) (u32 (x.add 3 1).1))))).p
    rw [ep]
    generalize Mod.u64 (((x.add 3 1).2.s 4 (ordMake (u32 (x.f.g 0)) (u32 (x.add 3 1).1))).m.lvl L).1 = v at *
    refine .inr ⟨by simp only [at_len, s_len]; exact len, .inl ⟨e, .inl ⟨by show (0 : Int) ≤ 3; omega, by show (3 : Int) ≤ 18; omega⟩, fun _ _ => ?_, fun hh => ?_⟩⟩
    · rw [g_at, g_s (by rw [s_len]; exact len) (by decide)]
      exact hv
    · simp only [pc_at] at hh; omega
  · exact h
theorem liStep_All (h : AllF (LnOk L sl th) x) (hL : L = x.m.p.c.level) (hl : 1 ≤ L ∧ L ≤ 6) (s0 : 0 ≤ sl) (t0 : 0 ≤ sl * th) (o : LnOk L sl th x.f) (e : x.f.fn = 31) (h9 : x.f.pc ≠ 90) : AllF (LnOk L sl th) (liStep x) := by
  obtain ⟨len, o1, o2, o3⟩ := ln_31 o e
  unfold liStep
  repeat' split
  · exact liTake_All h hL hl s0 t0 len e (by omega)
  · exact liLay_All h s0 t0 len e o1 o2 o3 (by omega)
  · exact liEnter_All h s0 t0 len e o1 o2 o3 (by omega)
  · exact liClimb_All h s0 t0 len e o1 o2 o3 (by omega)
  · exact liJoin_All h s0 t0 len e o1 o2 o3 (by omega)
theorem lrLook_All (h : AllF (LnOk L sl th) x) (s0 : 0 ≤ sl) (t0 : 0 ≤ sl * th) (len : x.f.r.length = 10) (e : x.f.fn = 32 ∨ x.f.fn = 33) : AllF (LnOk L sl th) (lrLook x) := by
  have r := h.rest
  unfold lrLook; dsimp only
  repeat' split
  all_goals first | exact h | ((repeat (with_reducible first | apply AllF.load | apply AllF.store | apply AllF.cas | apply AllF.add | apply AllF.swing | apply AllF.swingA | apply AllF.swingM | apply AllF.drop1 | apply AllF.guard | apply AllF.gh | apply AllF.fo | apply AllF.re | apply AllF.setPl)); first | with_reducible assumption | ((with_reducible first | apply Rest.pop | apply Rest.call | apply Rest.allPc | apply Rest.allS | apply Rest.fin); (focus (refine Lo.rest ?_ (by assumption); (with_reducible repeat' constructor))))) | skip
  all_goals first | (with_reducible apply ln_new; omega; assumption; assumption) | ((try simp only [f_m, f_pc, f_s, f_load, f_store, f_cas, f_add, f_gh, f_drop1, f_swing, f_swingA, f_swingM, f_guard]); refine ln32_of (by simp only [at_len, s_len]; assumption) (by simp only [fn_at, fn_s]; assumption) (by simp only [pc_at, pc_s, or_true]; first | done | omega))
theorem lrOn_All (h : AllF (LnOk L sl th) x) (s0 : 0 ≤ sl) (t0 : 0 ≤ sl * th) (len : x.f.r.length = 10) (e : x.f.fn = 32 ∨ x.f.fn = 33) : AllF (LnOk L sl th) (lrOn x) := by
  have r := h.rest
  unfold lrOn; dsimp only
  repeat' split
  all_goals first | exact h | ((repeat (with_reducible first | apply AllF.load | apply AllF.store | apply AllF.cas | apply AllF.add | apply AllF.swing | apply AllF.swingA | apply AllF.swingM | apply AllF.drop1 | apply AllF.guard | apply AllF.gh | apply AllF.fo | apply AllF.re | apply AllF.setPl)); first | with_reducible assumption | ((with_reducible first | apply Rest.pop | apply Rest.call | apply Rest.allPc | apply Rest.allS | apply Rest.fin); (focus (refine Lo.rest ?_ (by assumption); (with_reducible repeat' constructor))))) | skip
  all_goals first | (with_reducible apply ln_new; omega; assumption; assumption) | ((try simp only [f_m, f_pc, f_s, f_load, f_store, f_cas, f_add, f_gh, f_drop1, f_swing, f_swingA, f_swingM, f_guard]); refine ln32_of (by simp only [at_len, s_len]; assumption) (by simp only [fn_at, fn_s]; assumption) (by simp only [pc_at, pc_s, or_true]; first | done | omega))
theorem lrTell_All (h : AllF (LnOk L sl th) x) (s0 : 0 ≤ sl) (t0 : 0 ≤ sl * th) (len : x.f.r.length = 10) (e : x.f.fn = 32 ∨ x.f.fn = 33) : AllF (LnOk L sl th) (lrTell x) := by
  have r := h.rest
  unfold lrTell; dsimp only
  repeat' split
  all_goals first | exact h | ((repeat (with_reducible first | apply AllF.load | apply AllF.store | apply AllF.cas | apply AllF.add | apply AllF.swing | apply AllF.swingA | apply AllF.swingM | apply AllF.drop1 | apply AllF.guard | apply AllF.gh | apply AllF.fo | apply AllF.re | apply AllF.setPl)); first | with_reducible assumption | ((with_reducible first | apply Rest.pop | apply Rest.call | apply Rest.allPc | apply Rest.allS | apply Rest.fin); (focus (refine Lo.rest ?_ (by assumption); (with_reducible repeat' constructor))))) | skip
  all_goals first | (with_reducible apply ln_new; omega; assumption; assumption) | ((try simp only [f_m, f_pc, f_s, f_load, f_store, f_cas, f_add, f_gh, f_drop1, f_swing, f_swingA, f_swingM, f_guard]); refine ln32_of (by simp only [at_len, s_len]; assumption) (by simp only [fn_at, fn_s]; assumption) (by simp only [pc_at, pc_s, or_true]; first | done | omega))
theorem lrCut_All (h : AllF (LnOk L sl th) x) (s0 : 0 ≤ sl) (t0 : 0 ≤ sl * th) (len : x.f.r.length = 10) (e : x.f.fn = 32 ∨ x.f.fn = 33) : AllF (LnOk L sl th) (lrCut x) := by
  have r := h.rest
  unfold lrCut; dsimp only
  repeat' split
  all_goals first | exact h | ((repeat (with_reducible first | apply AllF.load | apply AllF.store | apply AllF.cas | apply AllF.add | apply AllF.swing | apply AllF.swingA | apply AllF.swingM | apply AllF.drop1 | apply AllF.guard | apply AllF.gh | apply AllF.fo | apply AllF.re | apply AllF.setPl)); first | with_reducible assumption | ((with_reducible first | apply Rest.pop | apply Rest.call | apply Rest.allPc | apply Rest.allS | apply Rest.fin); (focus (refine Lo.rest ?_ (by assumption); (with_reducible repeat' constructor))))) | skip
  all_goals first | (with_reducible apply ln_new; omega; assumption; assumption) | ((try simp only [f_m, f_pc, f_s, f_load, f_store, f_cas, f_add, f_gh, f_drop1, f_swing, f_swingA, f_swingM, f_guard]); refine ln32_of (by simp only [at_len, s_len]; assumption) (by simp only [fn_at, fn_s]; assumption) (by simp only [pc_at, pc_s, or_true]; first | done | omega))
theorem lrStep_All (h : AllF (LnOk L sl th) x) (s0 : 0 ≤ sl) (t0 : 0 ≤ sl * th) (len : x.f.r.length = 10) (e : x.f.fn = 32 ∨ x.f.fn = 33) : AllF (LnOk L sl th) (lrStep x) := by
  unfold lrStep
  repeat' split
  · exact lrLook_All h s0 t0 len e
  · exact lrOn_All h s0 t0 len e
  · exact lrTell_All h s0 t0 len e
  · exact lrCut_All h s0 t0 len e
theorem lindenDo_All (h : AllF (LnOk L sl th) x) (hL : L = x.m.p.c.level) (hl : 1 ≤ L ∧ L ≤ 6) (hs : sl = x.m.p.slots) (ht : th = x.m.p.c.threads) (s0 : 0 ≤ sl) (t0 : 0 ≤ sl * th) (hne : x.t.fr ≠ []) : AllF (LnOk L sl th) (lindenDo x) := by
  have r := h.rest
  have o := h.top hne
  unfold lindenDo
  rw [if_neg hne]
  dsimp only
  split
  · unfold locateDo
    rw [if_neg hne]
    split
    · exact lStep_All hl hL h o (by assumption)
    · exact hazardDo_All (fun f hf => .inl hf) h hs ht s0 t0 (ln_hz o (by omega))
  have len := (ln_up o (by omega)).1
  split
  · ((repeat (with_reducible first | apply AllF.load | apply AllF.store | apply AllF.cas | apply AllF.add | apply AllF.swing | apply AllF.swingA | apply AllF.swingM | apply AllF.drop1 | apply AllF.guard | apply AllF.gh | apply AllF.fo | apply AllF.re | apply AllF.setPl)); first | with_reducible assumption | ((with_reducible first | apply Rest.pop | apply Rest.call | apply Rest.allPc | apply Rest.allS | apply Rest.fin); (focus (refine Lo.rest ?_ (by assumption); (with_reducible repeat' constructor)))))
  split
  · exact liStep_All h hL hl s0 t0 o (by assumption) (by assumption)
  split
  · exact tdStep_All h s0 t0 len (by assumption)
  split
  · exact ctStep_All h s0 t0 len (by assumption)
  split
  · exact mvStep_All h s0 t0 len (by assumption)
  · exact lrStep_All h s0 t0 len (by omega)
end
end
section
open Mod
section
variable {x : Run} {L sl th : Int}
theorem lSettle_Adj {y : Run} {l : List Frm} (r : AdjR sl th 30 l y) : Adj sl th (lSettle y) := by
  unfold lSettle; dsimp only
  split
  all_goals ((with_reducible first | apply AdjR.pop | apply AdjR.allPc | apply AdjR.allS | apply AdjR.fin | apply AdjR.call | apply AdjR.all); (focus (refine Lo.adjR ?_ (by assumption); (with_reducible repeat' constructor))); try (first | decide | (refine .inr ?_; decide) | (refine .inl ?_; simp [fA]; done) | (refine Lo.ne ?_ hne; (with_reducible repeat' constructor))))
theorem lSettle_Act {y : Run} (h : Tch y) : Tch (lSettle y) := by
  unfold lSettle; dsimp only
  split
  all_goals (with_reducible repeat' (first | assumption | constructor))
theorem lPass_Adj {y : Run} {l : List Frm} (r : AdjR sl th 30 l y) : Adj sl th (lPass y) := by
  unfold lPass
  ((with_reducible first | apply AdjR.pop | apply AdjR.allPc | apply AdjR.allS | apply AdjR.fin | apply AdjR.call | apply AdjR.all); (focus (refine Lo.adjR ?_ (by assumption); (with_reducible repeat' constructor))); try (first | decide | (refine .inr ?_; decide) | (refine .inl ?_; simp [fA]; done) | (refine Lo.ne ?_ hne; (with_reducible repeat' constructor))))
theorem lPass_Act {y : Run} (h : Tch y) : Tch (lPass y) := by
  unfold lPass
  with_reducible repeat' (first | assumption | constructor)
theorem lJudge_Nx (hs : 0 < sl) (hne : x.t.fr ≠ []) (h : Adj sl th x) (e : x.f.fn = 30) : Nx sl th x (lJudge x) := by
  have r := h.r hne
  rw [e] at r
  unfold lJudge; dsimp only
  repeat' split
  all_goals first
    | (refine ⟨lPass_Adj (l := rst x) ?_, .inl (Tch.act (lPass_Act ?_))⟩; (focus (refine Lo.adjR ?_ (by assumption); (with_reducible repeat' constructor))); (with_reducible repeat' constructor); done)
    | (refine ⟨by ((with_reducible first | apply AdjR.pop | apply AdjR.allPc | apply AdjR.allS | apply AdjR.fin | apply AdjR.call | apply AdjR.all); (focus (refine Lo.adjR ?_ (by assumption); (with_reducible repeat' constructor))); try (first | decide | (refine .inr ?_; decide) | (refine .inl ?_; simp [fA]; done) | (refine Lo.ne ?_ hne; (with_reducible repeat' constructor)))), ?_⟩; first | (refine .inl ?_; (focus (refine Tch.act ?_; (with_reducible repeat' constructor))); done) | (refine .inr ?_; ((with_reducible first | apply AdjR.ltCall r hne | apply AdjR.ltFin r hne | apply AdjR.ltPc r hne | apply AdjR.ltPop r hne); assumption; (focus (refine Lo.adjR ?_ (by assumption); (with_reducible repeat' constructor))); try (first | assumption | exact ne_setF _ _)); simp +decide [fW, fA, hs]; first | done | omega))
theorem lPass_Nx {y : Run} {l : List Frm} (r : AdjR sl th 30 l y) (h : Tch y) : Nx sl th x (lPass y) := ⟨lPass_Adj r, .inl (Tch.act (lPass_Act h))⟩
theorem lSettle_Nx {y : Run} {l : List Frm} (r : AdjR sl th 30 l y) (h : Tch y) : Nx sl th x (lSettle y) := ⟨lSettle_Adj r, .inl (Tch.act (lSettle_Act h))⟩
theorem lStep_Nx (hs : 0 < sl) (hne : x.t.fr ≠ []) (h : Adj sl th x) (e : x.f.fn = 30) : Nx sl th x (lStep x) := by
  have r := h.r hne
  rw [e] at r
  unfold lStep; dsimp only
  repeat' split
  all_goals first
    | (with_reducible apply lJudge_Nx hs hne h e)
    | ((with_reducible apply lPass_Nx (l := rst x)); (focus (refine Lo.adjR ?_ (by assumption); (with_reducible repeat' constructor))); (with_reducible repeat' constructor); done)
    | ((with_reducible apply lSettle_Nx (l := rst x)); (focus (refine Lo.adjR ?_ (by assumption); (with_reducible repeat' constructor))); (with_reducible repeat' constructor); done)
    | (refine ⟨by ((with_reducible first | apply AdjR.pop | apply AdjR.allPc | apply AdjR.allS | apply AdjR.fin | apply AdjR.call | apply AdjR.all); (focus (refine Lo.adjR ?_ (by assumption); (with_reducible repeat' constructor))); try (first | decide | (refine .inr ?_; decide) | (refine .inl ?_; simp [fA]; done) | (refine Lo.ne ?_ hne; (with_reducible repeat' constructor)))), ?_⟩; first | (refine .inl ?_; (focus (refine Tch.act ?_; (with_reducible repeat' constructor))); done) | (refine .inr ?_; ((with_reducible first | apply AdjR.ltCall r hne | apply AdjR.ltFin r hne | apply AdjR.ltPc r hne | apply AdjR.ltPop r hne); assumption; (focus (refine Lo.adjR ?_ (by assumption); (with_reducible repeat' constructor))); try (first | assumption | exact ne_setF _ _)); simp +decide [fW, fA, hs]; first | done | omega))
theorem tdStep_Nx (hs : 0 < sl) (ha : 0 < sl * th) (hne : x.t.fr ≠ []) (h : Adj sl th x) (e : x.f.fn = 34) (hp : 0 ≤ x.f.pc ∧ x.f.pc ≤ 5) : Nx sl th x (tdStep x) := by
  have r := h.r hne
  rw [e] at r
  unfold tdStep; dsimp only
  repeat' split
  all_goals first | (refine ⟨by ((with_reducible first | apply AdjR.pop | apply AdjR.allPc | apply AdjR.allS | apply AdjR.fin | apply AdjR.call | apply AdjR.all); (focus (refine Lo.adjR ?_ (by assumption); (with_reducible repeat' constructor))); try (first | decide | (refine .inr ?_; decide) | (refine .inl ?_; simp [fA]; done) | (refine Lo.ne ?_ hne; (with_reducible repeat' constructor)))), ?_⟩; first | (refine .inl ?_; (focus (refine Tch.act ?_; (with_reducible repeat' constructor))); done) | (refine .inr ?_; ((with_reducible first | apply AdjR.ltCall r hne | apply AdjR.ltFin r hne | apply AdjR.ltPc r hne | apply AdjR.ltPop r hne); assumption; (focus (refine Lo.adjR ?_ (by assumption); (with_reducible repeat' constructor))); try (first | assumption | exact ne_setF _ _)); simp +decide [fW, fA, hs]; first | done | omega)) | ((have e1 : x.f.pc = 5 := by omega); (refine ⟨by ((with_reducible first | apply AdjR.pop | apply AdjR.allPc | apply AdjR.allS | apply AdjR.fin | apply AdjR.call | apply AdjR.all); (focus (refine Lo.adjR ?_ (by assumption); (with_reducible repeat' constructor))); try (first | decide | (refine .inr ?_; decide) | (refine .inl ?_; simp [fA]; done) | (refine Lo.ne ?_ hne; (with_reducible repeat' constructor)))), ?_⟩; first | (refine .inl ?_; (focus (refine Tch.act ?_; (with_reducible repeat' constructor))); done) | (refine .inr ?_; ((with_reducible first | apply AdjR.ltCall r hne | apply AdjR.ltFin r hne | apply AdjR.ltPc r hne | apply AdjR.ltPop r hne); assumption; (focus (refine Lo.adjR ?_ (by assumption); (with_reducible repeat' constructor))); try (first | assumption | exact ne_setF _ _)); simp +decide [fW, fA, hs]; first | done | omega))) | omega
theorem ctStep_Nx (hs : 0 < sl) (ha : 0 < sl * th) (hne : x.t.fr ≠ []) (h : Adj sl th x) (e : x.f.fn = 35) (hp : 0 ≤ x.f.pc ∧ x.f.pc ≤ 2) : Nx sl th x (ctStep x) := by
  have r := h.r hne
  rw [e] at r
  unfold ctStep; dsimp only
  repeat' split
  all_goals first | (refine ⟨by ((with_reducible first | apply AdjR.pop | apply AdjR.allPc | apply AdjR.allS | apply AdjR.fin | apply AdjR.call | apply AdjR.all); (focus (refine Lo.adjR ?_ (by assumption); (with_reducible repeat' constructor))); try (first | decide | (refine .inr ?_; decide) | (refine .inl ?_; simp [fA]; done) | (refine Lo.ne ?_ hne; (with_reducible repeat' constructor)))), ?_⟩; first | (refine .inl ?_; (focus (refine Tch.act ?_; (with_reducible repeat' constructor))); done) | (refine .inr ?_; ((with_reducible first | apply AdjR.ltCall r hne | apply AdjR.ltFin r hne | apply AdjR.ltPc r hne | apply AdjR.ltPop r hne); assumption; (focus (refine Lo.adjR ?_ (by assumption); (with_reducible repeat' constructor))); try (first | assumption | exact ne_setF _ _)); simp +decide [fW, fA, hs]; first | done | omega)) | ((have e1 : x.f.pc = 2 := by omega); (refine ⟨by ((with_reducible first | apply AdjR.pop | apply AdjR.allPc | apply AdjR.allS | apply AdjR.fin | apply AdjR.call | apply AdjR.all); (focus (refine Lo.adjR ?_ (by assumption); (with_reducible repeat' constructor))); try (first | decide | (refine .inr ?_; decide) | (refine .inl ?_; simp [fA]; done) | (refine Lo.ne ?_ hne; (with_reducible repeat' constructor)))), ?_⟩; first | (refine .inl ?_; (focus (refine Tch.act ?_; (with_reducible repeat' constructor))); done) | (refine .inr ?_; ((with_reducible first | apply AdjR.ltCall r hne | apply AdjR.ltFin r hne | apply AdjR.ltPc r hne | apply AdjR.ltPop r hne); assumption; (focus (refine Lo.adjR ?_ (by assumption); (with_reducible repeat' constructor))); try (first | assumption | exact ne_setF _ _)); simp +decide [fW, fA, hs]; first | done | omega))) | omega
theorem mvWalk_Nx (hs : 0 < sl) (ha : 0 < sl * th) (hne : x.t.fr ≠ []) (h : Adj sl th x) (e : x.f.fn = 36) (hp : 4 ≤ x.f.pc ∧ x.f.pc ≤ 6) : Nx sl th x (mvWalk x) := by
  have r := h.r hne
  rw [e] at r
  unfold mvWalk mvDown; dsimp only
  repeat' split
  all_goals first | (refine ⟨by ((with_reducible first | apply AdjR.pop | apply AdjR.allPc | apply AdjR.allS | apply AdjR.fin | apply AdjR.call | apply AdjR.all); (focus (refine Lo.adjR ?_ (by assumption); (with_reducible repeat' constructor))); try (first | decide | (refine .inr ?_; decide) | (refine .inl ?_; simp [fA]; done) | (refine Lo.ne ?_ hne; (with_reducible repeat' constructor)))), ?_⟩; first | (refine .inl ?_; (focus (refine Tch.act ?_; (with_reducible repeat' constructor))); done) | (refine .inr ?_; ((with_reducible first | apply AdjR.ltCall r hne | apply AdjR.ltFin r hne | apply AdjR.ltPc r hne | apply AdjR.ltPop r hne); assumption; (focus (refine Lo.adjR ?_ (by assumption); (with_reducible repeat' constructor))); try (first | assumption | exact ne_setF _ _)); simp +decide [fW, fA, hs]; first | done | omega)) | omega
theorem mvStep_Nx (hs : 0 < sl) (ha : 0 < sl * th) (hne : x.t.fr ≠ []) (h : Adj sl th x) (e : x.f.fn = 36) (hp : 0 ≤ x.f.pc ∧ x.f.pc ≤ 6) : Nx sl th x (mvStep x) := by
  have r := h.r hne
  rw [e] at r
  unfold mvStep mvDown; dsimp only
  repeat' split
  all_goals first | (refine ⟨by ((with_reducible first | apply AdjR.pop | apply AdjR.allPc | apply AdjR.allS | apply AdjR.fin | apply AdjR.call | apply AdjR.all); (focus (refine Lo.adjR ?_ (by assumption); (with_reducible repeat' constructor))); try (first | decide | (refine .inr ?_; decide) | (refine .inl ?_; simp [fA]; done) | (refine Lo.ne ?_ hne; (with_reducible repeat' constructor)))), ?_⟩; first | (refine .inl ?_; (focus (refine Tch.act ?_; (with_reducible repeat' constructor))); done) | (refine .inr ?_; ((with_reducible first | apply AdjR.ltCall r hne | apply AdjR.ltFin r hne | apply AdjR.ltPc r hne | apply AdjR.ltPop r hne); assumption; (focus (refine Lo.adjR ?_ (by assumption); (with_reducible repeat' constructor))); try (first | assumption | exact ne_setF _ _)); simp +decide [fW, fA, hs]; first | done | omega)) | exact mvWalk_Nx hs ha hne h e (by omega) | omega
theorem liTake_Nx (hs : 0 < sl) (ha : 0 < sl * th) (hne : x.t.fr ≠ []) (h : Adj sl th x) (e : x.f.fn = 31) (hp : 0 ≤ x.f.pc ∧ x.f.pc ≤ 2) : Nx sl th x (liTake x) := by
  have r := h.r hne
  rw [e] at r
  unfold liTake; dsimp only
  repeat' split
  all_goals first | (refine ⟨by ((with_reducible first | apply AdjR.pop | apply AdjR.allPc | apply AdjR.allS | apply AdjR.fin | apply AdjR.call | apply AdjR.all); (focus (refine Lo.adjR ?_ (by assumption); (with_reducible repeat' constructor))); try (first | decide | (refine .inr ?_; decide) | (refine .inl ?_; simp [fA]; done) | (refine Lo.ne ?_ hne; (with_reducible repeat' constructor)))), ?_⟩; first | (refine .inl ?_; (focus (refine Tch.act ?_; (with_reducible repeat' constructor))); done) | (refine .inr ?_; ((with_reducible first | apply AdjR.ltCall r hne | apply AdjR.ltFin r hne | apply AdjR.ltPc r hne | apply AdjR.ltPop r hne); assumption; (focus (refine Lo.adjR ?_ (by assumption); (with_reducible repeat' constructor))); try (first | assumption | exact ne_setF _ _)); simp +decide [fW, fA, hs, ha]; first | done | omega)) | omega
theorem liLay_Nx (hs : 0 < sl) (ha : 0 < sl * th) (hne : x.t.fr ≠ []) (h : Adj sl th x) (e : x.f.fn = 31) (hp : 3 ≤ x.f.pc ∧ x.f.pc ≤ 6) : Nx sl th x (liLay x) := by
  have r := h.r hne
  rw [e] at r
  unfold liLay; dsimp only
  repeat' split
  all_goals first | (refine ⟨by ((with_reducible first | apply AdjR.pop | apply AdjR.allPc | apply AdjR.allS | apply AdjR.fin | apply AdjR.call | apply AdjR.all); (focus (refine Lo.adjR ?_ (by assumption); (with_reducible repeat' constructor))); try (first | decide | (refine .inr ?_; decide) | (refine .inl ?_; simp [fA]; done) | (refine Lo.ne ?_ hne; (with_reducible repeat' constructor)))), ?_⟩; first | (refine .inl ?_; (focus (refine Tch.act ?_; (with_reducible repeat' constructor))); done) | (refine .inr ?_; ((with_reducible first | apply AdjR.ltCall r hne | apply AdjR.ltFin r hne | apply AdjR.ltPc r hne | apply AdjR.ltPop r hne); assumption; (focus (refine Lo.adjR ?_ (by assumption); (with_reducible repeat' constructor))); try (first | assumption | exact ne_setF _ _)); simp +decide [fW, fA, hs]; first | done | omega)) | omega
theorem liEnter_Nx (hs : 0 < sl) (ha : 0 < sl * th) (hne : x.t.fr ≠ []) (h : Adj sl th x) (e : x.f.fn = 31) (hp : 7 ≤ x.f.pc ∧ x.f.pc ≤ 10) : Nx sl th x (liEnter x) := by
  have r := h.r hne
  rw [e] at r
  unfold liEnter; dsimp only
  repeat' split
  all_goals first | (refine ⟨by ((with_reducible first | apply AdjR.pop | apply AdjR.allPc | apply AdjR.allS | apply AdjR.fin | apply AdjR.call | apply AdjR.all); (focus (refine Lo.adjR ?_ (by assumption); (with_reducible repeat' constructor))); try (first | decide | (refine .inr ?_; decide) | (refine .inl ?_; simp [fA]; done) | (refine Lo.ne ?_ hne; (with_reducible repeat' constructor)))), ?_⟩; first | (refine .inl ?_; (focus (refine Tch.act ?_; (with_reducible repeat' constructor))); done) | (refine .inr ?_; ((with_reducible first | apply AdjR.ltCall r hne | apply AdjR.ltFin r hne | apply AdjR.ltPc r hne | apply AdjR.ltPop r hne); assumption; (focus (refine Lo.adjR ?_ (by assumption); (with_reducible repeat' constructor))); try (first | assumption | exact ne_setF _ _)); simp +decide [fW, fA, hs]; first | done | omega)) | omega
theorem liClimb_Nx (hs : 0 < sl) (ha : 0 < sl * th) (hne : x.t.fr ≠ []) (h : Adj sl th x) (e : x.f.fn = 31) (hp : 11 ≤ x.f.pc ∧ x.f.pc ≤ 14) : Nx sl th x (liClimb x) := by
  have r := h.r hne
  rw [e] at r
  unfold liClimb; dsimp only
  repeat' split
  all_goals first | (refine ⟨by ((with_reducible first | apply AdjR.pop | apply AdjR.allPc | apply AdjR.allS | apply AdjR.fin | apply AdjR.call | apply AdjR.all); (focus (refine Lo.adjR ?_ (by assumption); (with_reducible repeat' constructor))); try (first | decide | (refine .inr ?_; decide) | (refine .inl ?_; simp [fA]; done) | (refine Lo.ne ?_ hne; (with_reducible repeat' constructor)))), ?_⟩; first | (refine .inl ?_; (focus (refine Tch.act ?_; (with_reducible repeat' constructor))); done) | (refine .inr ?_; ((with_reducible first | apply AdjR.ltCall r hne | apply AdjR.ltFin r hne | apply AdjR.ltPc r hne | apply AdjR.ltPop r hne); assumption; (focus (refine Lo.adjR ?_ (by assumption); (with_reducible repeat' constructor))); try (first | assumption | exact ne_setF _ _)); simp +decide [fW, fA, hs]; first | done | omega)) | omega
theorem liJoin_Nx (hs : 0 < sl) (ha : 0 < sl * th) (hne : x.t.fr ≠ []) (h : Adj sl th x) (e : x.f.fn = 31) (hp : 15 ≤ x.f.pc ∧ x.f.pc ≤ 18) : Nx sl th x (liJoin x) := by
  have r := h.r hne
  rw [e] at r
  unfold liJoin; dsimp only
  repeat' split
  all_goals first | (refine ⟨by ((with_reducible first | apply AdjR.pop | apply AdjR.allPc | apply AdjR.allS | apply AdjR.fin | apply AdjR.call | apply AdjR.all); (focus (refine Lo.adjR ?_ (by assumption); (with_reducible repeat' constructor))); try (first | decide | (refine .inr ?_; decide) | (refine .inl ?_; simp [fA]; done) | (refine Lo.ne ?_ hne; (with_reducible repeat' constructor)))), ?_⟩; first | (refine .inl ?_; (focus (refine Tch.act ?_; (with_reducible repeat' constructor))); done) | (refine .inr ?_; ((with_reducible first | apply AdjR.ltCall r hne | apply AdjR.ltFin r hne | apply AdjR.ltPc r hne | apply AdjR.ltPop r hne); assumption; (focus (refine Lo.adjR ?_ (by assumption); (with_reducible repeat' constructor))); try (first | assumption | exact ne_setF _ _)); simp +decide [fW, fA, hs]; first | done | omega)) | ((have e1 : x.f.pc = 18 := by omega); (refine ⟨by ((with_reducible first | apply AdjR.pop | apply AdjR.allPc | apply AdjR.allS | apply AdjR.fin | apply AdjR.call | apply AdjR.all); (focus (refine Lo.adjR ?_ (by assumption); (with_reducible repeat' constructor))); try (first | decide | (refine .inr ?_; decide) | (refine .inl ?_; simp [fA]; done) | (refine Lo.ne ?_ hne; (with_reducible repeat' constructor)))), ?_⟩; first | (refine .inl ?_; (focus (refine Tch.act ?_; (with_reducible repeat' constructor))); done) | (refine .inr ?_; ((with_reducible first | apply AdjR.ltCall r hne | apply AdjR.ltFin r hne | apply AdjR.ltPc r hne | apply AdjR.ltPop r hne); assumption; (focus (refine Lo.adjR ?_ (by assumption); (with_reducible repeat' constructor))); try (first | assumption | exact ne_setF _ _)); simp +decide [fW, fA, hs]; first | done | omega))) | omega
theorem liStep_Nx (hs : 0 < sl) (ha : 0 < sl * th) (hne : x.t.fr ≠ []) (h : Adj sl th x) (e : x.f.fn = 31) (hp : 0 ≤ x.f.pc ∧ x.f.pc ≤ 18) : Nx sl th x (liStep x) := by
  unfold liStep
  repeat' split
  · exact liTake_Nx hs ha hne h e (by omega)
  · exact liLay_Nx hs ha hne h e (by omega)
  · exact liEnter_Nx hs ha hne h e (by omega)
  · exact liClimb_Nx hs ha hne h e (by omega)
  · exact liJoin_Nx hs ha hne h e (by omega)
theorem lrLook32_Nx (hs : 0 < sl) (ha : 0 < sl * th) (hne : x.t.fr ≠ []) (h : Adj sl th x) (e : x.f.fn = 32) (hp : 0 ≤ x.f.pc ∧ x.f.pc ≤ 4) : Nx sl th x (lrLook x) := by
  have r := h.r hne
  rw [e] at r
  unfold lrLook; dsimp only
  repeat' split
  all_goals first | (refine ⟨by ((with_reducible first | apply AdjR.pop | apply AdjR.allPc | apply AdjR.allS | apply AdjR.fin | apply AdjR.call | apply AdjR.all); (focus (refine Lo.adjR ?_ (by assumption); (with_reducible repeat' constructor))); try (first | decide | (refine .inr ?_; decide) | (refine .inl ?_; simp [fA]; done) | (refine Lo.ne ?_ hne; (with_reducible repeat' constructor)))), ?_⟩; first | (refine .inl ?_; (focus (refine Tch.act ?_; (with_reducible repeat' constructor))); done) | (refine .inr ?_; ((with_reducible first | apply AdjR.ltCall r hne | apply AdjR.ltFin r hne | apply AdjR.ltPc r hne | apply AdjR.ltPop r hne); assumption; (focus (refine Lo.adjR ?_ (by assumption); (with_reducible repeat' constructor))); try (first | assumption | exact ne_setF _ _)); simp +decide [fW, fA, hs]; first | done | omega)) | omega
theorem lrOn32_Nx (hs : 0 < sl) (ha : 0 < sl * th) (hne : x.t.fr ≠ []) (h : Adj sl th x) (e : x.f.fn = 32) (hp : 5 ≤ x.f.pc ∧ x.f.pc ≤ 8) : Nx sl th x (lrOn x) := by
  have r := h.r hne
  rw [e] at r
  unfold lrOn; dsimp only
  repeat' split
  all_goals first | (refine ⟨by ((with_reducible first | apply AdjR.pop | apply AdjR.allPc | apply AdjR.allS | apply AdjR.fin | apply AdjR.call | apply AdjR.all); (focus (refine Lo.adjR ?_ (by assumption); (with_reducible repeat' constructor))); try (first | decide | (refine .inr ?_; decide) | (refine .inl ?_; simp [fA]; done) | (refine Lo.ne ?_ hne; (with_reducible repeat' constructor)))), ?_⟩; first | (refine .inl ?_; (focus (refine Tch.act ?_; (with_reducible repeat' constructor))); done) | (refine .inr ?_; ((with_reducible first | apply AdjR.ltCall r hne | apply AdjR.ltFin r hne | apply AdjR.ltPc r hne | apply AdjR.ltPop r hne); assumption; (focus (refine Lo.adjR ?_ (by assumption); (with_reducible repeat' constructor))); try (first | assumption | exact ne_setF _ _)); simp +decide [fW, fA, hs]; first | done | omega)) | omega
theorem lrTell32_Nx (hs : 0 < sl) (ha : 0 < sl * th) (hne : x.t.fr ≠ []) (h : Adj sl th x) (e : x.f.fn = 32) (hp : 9 ≤ x.f.pc ∧ x.f.pc ≤ 10) : Nx sl th x (lrTell x) := by
  have r := h.r hne
  rw [e] at r
  unfold lrTell; dsimp only
  repeat' split
  all_goals first | (refine ⟨by ((with_reducible first | apply AdjR.pop | apply AdjR.allPc | apply AdjR.allS | apply AdjR.fin | apply AdjR.call | apply AdjR.all); (focus (refine Lo.adjR ?_ (by assumption); (with_reducible repeat' constructor))); try (first | decide | (refine .inr ?_; decide) | (refine .inl ?_; simp [fA]; done) | (refine Lo.ne ?_ hne; (with_reducible repeat' constructor)))), ?_⟩; first | (refine .inl ?_; (focus (refine Tch.act ?_; (with_reducible repeat' constructor))); done) | (refine .inr ?_; ((with_reducible first | apply AdjR.ltCall r hne | apply AdjR.ltFin r hne | apply AdjR.ltPc r hne | apply AdjR.ltPop r hne); assumption; (focus (refine Lo.adjR ?_ (by assumption); (with_reducible repeat' constructor))); try (first | assumption | exact ne_setF _ _)); simp +decide [fW, fA, hs]; first | done | omega)) | omega
theorem lrCut32_Nx (hs : 0 < sl) (ha : 0 < sl * th) (hne : x.t.fr ≠ []) (h : Adj sl th x) (e : x.f.fn = 32) (hp : 11 ≤ x.f.pc ∧ x.f.pc ≤ 14) : Nx sl th x (lrCut x) := by
  have r := h.r hne
  rw [e] at r
  unfold lrCut; dsimp only
  repeat' split
  all_goals first | (refine ⟨by ((with_reducible first | apply AdjR.pop | apply AdjR.allPc | apply AdjR.allS | apply AdjR.fin | apply AdjR.call | apply AdjR.all); (focus (refine Lo.adjR ?_ (by assumption); (with_reducible repeat' constructor))); try (first | decide | (refine .inr ?_; decide) | (refine .inl ?_; simp [fA]; done) | (refine Lo.ne ?_ hne; (with_reducible repeat' constructor)))), ?_⟩; first | (refine .inl ?_; (focus (refine Tch.act ?_; (with_reducible repeat' constructor))); done) | (refine .inr ?_; ((with_reducible first | apply AdjR.ltCall r hne | apply AdjR.ltFin r hne | apply AdjR.ltPc r hne | apply AdjR.ltPop r hne); assumption; (focus (refine Lo.adjR ?_ (by assumption); (with_reducible repeat' constructor))); try (first | assumption | exact ne_setF _ _)); simp +decide [fW, fA, hs]; first | done | omega)) | ((have e1 : x.f.pc = 14 := by omega); (refine ⟨by ((with_reducible first | apply AdjR.pop | apply AdjR.allPc | apply AdjR.allS | apply AdjR.fin | apply AdjR.call | apply AdjR.all); (focus (refine Lo.adjR ?_ (by assumption); (with_reducible repeat' constructor))); try (first | decide | (refine .inr ?_; decide) | (refine .inl ?_; simp [fA]; done) | (refine Lo.ne ?_ hne; (with_reducible repeat' constructor)))), ?_⟩; first | (refine .inl ?_; (focus (refine Tch.act ?_; (with_reducible repeat' constructor))); done) | (refine .inr ?_; ((with_reducible first | apply AdjR.ltCall r hne | apply AdjR.ltFin r hne | apply AdjR.ltPc r hne | apply AdjR.ltPop r hne); assumption; (focus (refine Lo.adjR ?_ (by assumption); (with_reducible repeat' constructor))); try (first | assumption | exact ne_setF _ _)); simp +decide [fW, fA, hs]; first | done | omega))) | omega
theorem lrStep32_Nx (hs : 0 < sl) (ha : 0 < sl * th) (hne : x.t.fr ≠ []) (h : Adj sl th x) (e : x.f.fn = 32) (hp : 0 ≤ x.f.pc ∧ x.f.pc ≤ 14) : Nx sl th x (lrStep x) := by
  unfold lrStep
  repeat' split
  · exact lrLook32_Nx hs ha hne h e (by omega)
  · exact lrOn32_Nx hs ha hne h e (by omega)
  · exact lrTell32_Nx hs ha hne h e (by omega)
  · exact lrCut32_Nx hs ha hne h e (by omega)
theorem lrLook33_Nx (hs : 0 < sl) (ha : 0 < sl * th) (hne : x.t.fr ≠ []) (h : Adj sl th x) (e : x.f.fn = 33) (hp : 0 ≤ x.f.pc ∧ x.f.pc ≤ 4) : Nx sl th x (lrLook x) := by
  have r := h.r hne
  rw [e] at r
  unfold lrLook; dsimp only
  repeat' split
  all_goals first | (refine ⟨by ((with_reducible first | apply AdjR.pop | apply AdjR.allPc | apply AdjR.allS | apply AdjR.fin | apply AdjR.call | apply AdjR.all); (focus (refine Lo.adjR ?_ (by assumption); (with_reducible repeat' constructor))); try (first | decide | (refine .inr ?_; decide) | (refine .inl ?_; simp [fA]; done) | (refine Lo.ne ?_ hne; (with_reducible repeat' constructor)))), ?_⟩; first | (refine .inl ?_; (focus (refine Tch.act ?_; (with_reducible repeat' constructor))); done) | (refine .inr ?_; ((with_reducible first | apply AdjR.ltCall r hne | apply AdjR.ltFin r hne | apply AdjR.ltPc r hne | apply AdjR.ltPop r hne); assumption; (focus (refine Lo.adjR ?_ (by assumption); (with_reducible repeat' constructor))); try (first | assumption | exact ne_setF _ _)); simp +decide [fW, fA, hs]; first | done | omega)) | omega
theorem lrOn33_Nx (hs : 0 < sl) (ha : 0 < sl * th) (hne : x.t.fr ≠ []) (h : Adj sl th x) (e : x.f.fn = 33) (hp : 5 ≤ x.f.pc ∧ x.f.pc ≤ 8) : Nx sl th x (lrOn x) := by
  have r := h.r hne
  rw [e] at r
  unfold lrOn; dsimp only
  repeat' split
  all_goals first | (refine ⟨by ((with_reducible first | apply AdjR.pop | apply AdjR.allPc | apply AdjR.allS | apply AdjR.fin | apply AdjR.call | apply AdjR.all); (focus (refine Lo.adjR ?_ (by assumption); (with_reducible repeat' constructor))); try (first | decide | (refine .inr ?_; decide) | (refine .inl ?_; simp [fA]; done) | (refine Lo.ne ?_ hne; (with_reducible repeat' constructor)))), ?_⟩; first | (refine .inl ?_; (focus (refine Tch.act ?_; (with_reducible repeat' constructor))); done) | (refine .inr ?_; ((with_reducible first | apply AdjR.ltCall r hne | apply AdjR.ltFin r hne | apply AdjR.ltPc r hne | apply AdjR.ltPop r hne); assumption; (focus (refine Lo.adjR ?_ (by assumption); (with_reducible repeat' constructor))); try (first | assumption | exact ne_setF _ _)); simp +decide [fW, fA, hs]; first | done | omega)) | omega
theorem lrTell33_Nx (hs : 0 < sl) (ha : 0 < sl * th) (hne : x.t.fr ≠ []) (h : Adj sl th x) (e : x.f.fn = 33) (hp : 9 ≤ x.f.pc ∧ x.f.pc ≤ 10) : Nx sl th x (lrTell x) := by
  have r := h.r hne
  rw [e] at r
  unfold lrTell; dsimp only
  repeat' split
  all_goals first | (refine ⟨by ((with_reducible first | apply AdjR.pop | apply AdjR.allPc | apply AdjR.allS | apply AdjR.fin | apply AdjR.call | apply AdjR.all); (focus (refine Lo.adjR ?_ (by assumption); (with_reducible repeat' constructor))); try (first | decide | (refine .inr ?_; decide) | (refine .inl ?_; simp [fA]; done) | (refine Lo.ne ?_ hne; (with_reducible repeat' constructor)))), ?_⟩; first | (refine .inl ?_; (focus (refine Tch.act ?_; (with_reducible repeat' constructor))); done) | (refine .inr ?_; ((with_reducible first | apply AdjR.ltCall r hne | apply AdjR.ltFin r hne | apply AdjR.ltPc r hne | apply AdjR.ltPop r hne); assumption; (focus (refine Lo.adjR ?_ (by assumption); (with_reducible repeat' constructor))); try (first | assumption | exact ne_setF _ _)); simp +decide [fW, fA, hs]; first | done | omega)) | omega
theorem lrCut33_Nx (hs : 0 < sl) (ha : 0 < sl * th) (hne : x.t.fr ≠ []) (h : Adj sl th x) (e : x.f.fn = 33) (hp : 11 ≤ x.f.pc ∧ x.f.pc ≤ 14) : Nx sl th x (lrCut x) := by
  have r := h.r hne
  rw [e] at r
  unfold lrCut; dsimp only
  repeat' split
  all_goals first | (refine ⟨by ((with_reducible first | apply AdjR.pop | apply AdjR.allPc | apply AdjR.allS | apply AdjR.fin | apply AdjR.call | apply AdjR.all); (focus (refine Lo.adjR ?_ (by assumption); (with_reducible repeat' constructor))); try (first | decide | (refine .inr ?_; decide) | (refine .inl ?_; simp [fA]; done) | (refine Lo.ne ?_ hne; (with_reducible repeat' constructor)))), ?_⟩; first | (refine .inl ?_; (focus (refine Tch.act ?_; (with_reducible repeat' constructor))); done) | (refine .inr ?_; ((with_reducible first | apply AdjR.ltCall r hne | apply AdjR.ltFin r hne | apply AdjR.ltPc r hne | apply AdjR.ltPop r hne); assumption; (focus (refine Lo.adjR ?_ (by assumption); (with_reducible repeat' constructor))); try (first | assumption | exact ne_setF _ _)); simp +decide [fW, fA, hs]; first | done | omega)) | ((have e1 : x.f.pc = 14 := by omega); (refine ⟨by ((with_reducible first | apply AdjR.pop | apply AdjR.allPc | apply AdjR.allS | apply AdjR.fin | apply AdjR.call | apply AdjR.all); (focus (refine Lo.adjR ?_ (by assumption); (with_reducible repeat' constructor))); try (first | decide | (refine .inr ?_; decide) | (refine .inl ?_; simp [fA]; done) | (refine Lo.ne ?_ hne; (with_reducible repeat' constructor)))), ?_⟩; first | (refine .inl ?_; (focus (refine Tch.act ?_; (with_reducible repeat' constructor))); done) | (refine .inr ?_; ((with_reducible first | apply AdjR.ltCall r hne | apply AdjR.ltFin r hne | apply AdjR.ltPc r hne | apply AdjR.ltPop r hne); assumption; (focus (refine Lo.adjR ?_ (by assumption); (with_reducible repeat' constructor))); try (first | assumption | exact ne_setF _ _)); simp +decide [fW, fA, hs]; first | done | omega))) | omega
theorem lrStep33_Nx (hs : 0 < sl) (ha : 0 < sl * th) (hne : x.t.fr ≠ []) (h : Adj sl th x) (e : x.f.fn = 33) (hp : 0 ≤ x.f.pc ∧ x.f.pc ≤ 14) : Nx sl th x (lrStep x) := by
  unfold lrStep
  repeat' split
  · exact lrLook33_Nx hs ha hne h e (by omega)
  · exact lrOn33_Nx hs ha hne h e (by omega)
  · exact lrTell33_Nx hs ha hne h e (by omega)
  · exact lrCut33_Nx hs ha hne h e (by omega)
theorem ln_rng {f : Frm} (o : LnOk L sl th f) : (1 ≤ f.fn ∧ f.fn ≤ 6) ∨ f.fn = 30 ∧ 0 ≤ f.pc ∧ f.pc ≤ 6 ∨ f.fn = 31 ∧ (0 ≤ f.pc ∧ f.pc ≤ 18 ∨ f.pc = 90) ∨ (f.fn = 32 ∨ f.fn = 33) ∧ (0 ≤ f.pc ∧ f.pc ≤ 14 ∨ f.pc = 90) ∨ f.fn = 34 ∧ (0 ≤ f.pc ∧ f.pc ≤ 5 ∨ f.pc = 90) ∨ f.fn = 35 ∧ 0 ≤ f.pc ∧ f.pc ≤ 2 ∨ f.fn = 36 ∧ 0 ≤ f.pc ∧ f.pc ≤ 6 := by
  unfold LnOk HzOk at o
  omega
theorem lindenDo_Nx (hsl : sl = x.m.p.slots) (hth : th = x.m.p.c.threads) (hs : 0 < sl) (ha : 0 < sl * th) (hne : x.t.fr ≠ []) (h : Adj sl th x) (o : LnOk L sl th x.f) : Nx sl th x (lindenDo x) := by
  have o1 := ln_rng o
  have r := h.r hne
  unfold lindenDo
  rw [if_neg hne]
  dsimp only
  split
  · unfold locateDo
    rw [if_neg hne]
    split
    · exact lStep_Nx hs hne h (by assumption)
    · exact hazardDo_Nx hsl hth hs ha hne h (by omega)
  split
  · rename_i c c9
    refine ⟨r.pop, .inr (AdjR.ltPop r hne c9 r hne ?_)⟩
    have c2 : fA sl th x.f.fn 90 = false := by
      have : x.f.fn = 31 ∨ x.f.fn = 32 ∨ x.f.fn = 33 ∨ x.f.fn = 34 := by omega
      rcases this with e | e | e | e <;> rw [e] <;> simp [fA]
    rw [c2]
    have := (fW_rng x.f.fn 90).1
    simp
    omega
  split
  · exact liStep_Nx hs ha hne h (by assumption) (by omega)
  split
  · exact tdStep_Nx hs ha hne h (by assumption) (by omega)
  split
  · exact ctStep_Nx hs ha hne h (by assumption) (by omega)
  split
  · exact mvStep_Nx hs ha hne h (by assumption) (by omega)
  · have : x.f.fn = 32 ∨ x.f.fn = 33 := by omega
    rcases this with e | e
    · exact lrStep32_Nx hs ha hne h e (by omega)
    · exact lrStep33_Nx hs ha hne h e (by omega)
end
def LnQ (c : Mod.Cf) (f : Frm) : Prop := LnOk c.level (planOf c).slots c.threads f
def LnW (x : Run) : Prop := Ok x ∧ LOk x ∧ (x.f.fn = 31 → LiOk x)
theorem linden_good : DoOk lindenDo LnQ LnW 31 where
  st := lindenDo_St
  all c x hc hp hne h := by
    obtain ⟨a1, a2, a3, a4, a5, a6⟩ := ac_pos hc
    exact lindenDo_All h (by rw [hp]; rfl) ⟨a5, a6⟩ (by rw [hp]) (by rw [hp]; rfl) (by omega) (by omega) hne
  nx c x hc hp hne h a := by
    obtain ⟨a1, a2, a3, a4, a5, a6⟩ := ac_pos hc
    exact lindenDo_Nx (by rw [hp]) (by rw [hp]; rfl) a1 a2 hne a (h.top hne)
  w c x B hc h hB hne hid := by
    obtain ⟨a1, a2, a3, a4, a5, a6⟩ := ac_pos hc
    have o : LnOk c.level (planOf c).slots c.threads x.f := h.q.top hne
    have hpr := h.pr
    have hsu := h.su
    have hwo := h.wo
    refine ⟨h.ok hB hid ?_, fun e hp => ?_, fun e => ?_⟩
    · rcases o with o | ⟨_, o⟩
      · exact hz_pc o ⟨by omega, a4⟩ a3
      · omega
    · obtain ⟨len, o1, o2, o3⟩ := ln_30 o e
      have g := o3 hp
      exact ⟨⟨g.1, by omega⟩, by omega, by omega, by omega⟩
    · obtain ⟨len, o1, o2, o3⟩ := ln_31 o e
      refine ⟨⟨by omega, by omega, by omega, by omega⟩, fun e2 e3 => ?_⟩
      have g1 := o2 (by omega) (by omega)
      have g2 := o3 (by omega) (by omega)
      omega
  new c op l hc ho := by
    obtain ⟨a1, a2, a3, a4, a5, a6⟩ := ac_pos hc
    exact ln_new (by omega) (by omega) (by omega)
theorem linden_DoC : DoC 28 lindenDo LnW := fun h M T tv x R K H hw k => lindenDo_call H hw.1 hw.2.1 hw.2.2 k
end
end Go.Proofs.YtglgifgoojncpaaGreat
