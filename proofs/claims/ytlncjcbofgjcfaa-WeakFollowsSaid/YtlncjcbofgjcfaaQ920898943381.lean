/- Part 7 of what the proofs of this seat rest on: see the last text of the claim. -/
import Derived.Test.YtlncjcbofgjcfaaQ0c01d3d7ef79
import Derived.Test.YtlncjcbofgjcfaaProg
section
/- The formulas of functions, printed by a program of mine. -/
set_option linter.unusedVariables false
set_option maxRecDepth 100000
namespace Go.Proofs.Ytlncjcbofgjcfaa

/-- jostle/jostleref12.Right -/
def F26 (K : Value → Heap → Prop) (h : Heap) (x0a : Option Addr) (x0l x0c : Nat) : Prop :=
  (exI (fun I0 => (exM (fun m1 => ((I0 [(.bool false), (.int .i64 0)] h) ∧ (∀ v2 : Value, (∀ v3 : Value, (∀ g4 : Env, (∀ h5 : Heap, ((I0 [v2, v3] h5) → (asInt .i64 v3 (fun n6 => (ifB (decide (n6 < ((x0l : Nat) : Int))) (exI (fun I7 => ((asInt .i64 v3 (fun n8 => (callV Try.prog (.func (.func 46) #[] #[]) #[(.slice x0a x0l x0c), (.int .i64 n8)] h5 (fun v9 h10 => (asInt .i64 v9 (fun n11 => (ifB (n11 != 0) (I7 [(.tuple #[]), (.bool true), (.tuple #[]), (.bool true)] h10) (asInt .i64 v3 (fun n12 => (((0 : Int) ≤ n12) ∧ (((n12 : Int) < ((x0l : Nat) : Int)) ∧ (asPtr (.pointer x0a) (fun a13 => (ldH h10 (Addr.add (Addr.add a13 (n12.toNat * 8)) 1) (fun v14 => (asBool v14 (fun b15 => (ifB b15 (asInt .i64 v3 (fun n16 => (((0 : Int) ≤ n16) ∧ (((n16 : Int) < ((x0l : Nat) : Int)) ∧ (asPtr (.pointer x0a) (fun a17 => (ldH h10 (Addr.add (Addr.add a17 (n16.toNat * 8)) 2) (fun v18 => (ldH h10 (Addr.add (Addr.add a17 (n16.toNat * 8)) 3) (fun v19 => (ldH h10 (Addr.add (Addr.add a17 (n16.toNat * 8)) 4) (fun v20 => (eqvH Try.prog 40 (.agg #[v18, v19, v20]) (.agg #[(.int .i64 0), (.int .u32 0), (.int .u32 0)]) (fun b21 => (ifB (!b21) (I7 [(.bool (!b21)), (.bool (!b21)), (.tuple #[]), (.bool true)] h10) (asInt .i64 v3 (fun n22 => (((0 : Int) ≤ n22) ∧ (((n22 : Int) < ((x0l : Nat) : Int)) ∧ (asPtr (.pointer x0a) (fun a23 => (ldH h10 (Addr.add (Addr.add a23 (n22.toNat * 8)) 1) (fun v24 => (asBool v24 (fun b25 => (ifB (!b25) (asInt .i64 v3 (fun n26 => (((0 : Int) ≤ n26) ∧ (((n26 : Int) < ((x0l : Nat) : Int)) ∧ (asPtr (.pointer x0a) (fun a27 => (ldH h10 (Addr.add (Addr.add a27 (n26.toNat * 8)) 5) (fun v28 => (ldH h10 (Addr.add (Addr.add a27 (n26.toNat * 8)) 6) (fun v29 => (ldH h10 (Addr.add (Addr.add a27 (n26.toNat * 8)) 7) (fun v30 => (eqvH Try.prog 42 (.agg #[v28, v29, v30]) (.agg #[(.int .i64 0), (.int .u32 0), (.int .u32 0)]) (fun b31 => (I7 [(.bool (!b21)), (.bool (!b21)), (.bool (!b31)), (.bool (!b31))] h10))))))))))))))) (I7 [(.bool (!b21)), (.bool (!b21)), (.bool false), (.bool false)] h10))))))))))))))))))))))))))) (asInt .i64 v3 (fun n32 => (((0 : Int) ≤ n32) ∧ (((n32 : Int) < ((x0l : Nat) : Int)) ∧ (asPtr (.pointer x0a) (fun a33 => (ldH h10 (Addr.add (Addr.add a33 (n32.toNat * 8)) 1) (fun v34 => (asBool v34 (fun b35 => (ifB (!b35) (asInt .i64 v3 (fun n36 => (((0 : Int) ≤ n36) ∧ (((n36 : Int) < ((x0l : Nat) : Int)) ∧ (asPtr (.pointer x0a) (fun a37 => (ldH h10 (Addr.add (Addr.add a37 (n36.toNat * 8)) 5) (fun v38 => (ldH h10 (Addr.add (Addr.add a37 (n36.toNat * 8)) 6) (fun v39 => (ldH h10 (Addr.add (Addr.add a37 (n36.toNat * 8)) 7) (fun v40 => (eqvH Try.prog 42 (.agg #[v38, v39, v40]) (.agg #[(.int .i64 0), (.int .u32 0), (.int .u32 0)]) (fun b41 => (I7 [(.bool false), (.bool false), (.bool (!b41)), (.bool (!b41))] h10))))))))))))))) (I7 [(.bool false), (.bool false), (.bool false), (.bool false)] h10)))))))))))))))))))))))))))))) ∧ (∀ v42 : Value, (∀ v43 : Value, (∀ v44 : Value, (∀ v45 : Value, (∀ g46 : Env, (∀ h47 : Heap, ((I7 [v42, v43, v44, v45] h47) → (asBool v45 (fun b48 => (ifB b48 (K (.bool false) h47) (asInt .i64 v3 (fun n49 => ((I0 [v2, (.int .i64 (IntKind.wrap .i64 (n49 + 1)))] h47) ∧ ((m1 [v2, (.int .i64 (IntKind.wrap .i64 (n49 + 1)))] h47) < (m1 [v2, v3] h5)))))))))))))))))) (K (.bool true) h5))))))))))))))
theorem vc26 (K : Value → Heap → Prop) (h : Heap) (x0a : Option Addr) (x0l x0c : Nat) : vc Try.prog (bodyOf Try.f26) (retQ Try.prog Try.f26.results.toList (hasRange (bodyOf Try.f26)) h.size K) (envL [(.slice x0a x0l x0c)]) h = F26 K h x0a x0l x0c := by kernel_rfl
theorem ok26 : fnOk Try.prog Try.f26 1 = true := by kernel_rfl
theorem call26 {K : Value → Heap → Prop} {h : Heap} {x0a : Option Addr} {x0l x0c : Nat} (H : F26 K h x0a x0l x0c) : CallH Try.prog 26 #[(.slice x0a x0l x0c)] h K :=
  callH_mk Try.func26 ok26 (Eq.mp (vc26 K h x0a x0l x0c).symm H)


/-- jostle/jostleref12.Opers -/
def F27 (K : Value → Heap → Prop) (h : Heap) (x0a : Option Addr) (x0l x0c : Nat) : Prop :=
  (exI (fun I0 => (exM (fun m1 => ((I0 [(.slice none 0 0), (.int .i64 0), (.tuple #[])] h) ∧ (∀ v2 : Value, (∀ v3 : Value, (∀ v4 : Value, (∀ g5 : Env, (∀ h6 : Heap, ((I0 [v2, v3, v4] h6) → (asInt .i64 v3 (fun n7 => (ifB (decide (n7 < ((x0l : Nat) : Int))) (exI (fun I8 => ((asInt .i64 v3 (fun n9 => (((0 : Int) ≤ n9) ∧ (((n9 : Int) < ((x0l : Nat) : Int)) ∧ (asPtr (.pointer x0a) (fun a10 => (ldH h6 (Addr.add (Addr.add a10 (n9.toNat * 8)) 1) (fun v11 => (asBool v11 (fun b12 => (ifB b12 (I8 [v2, v4] h6) (asInt .i64 v3 (fun n13 => (((0 : Int) ≤ n13) ∧ (((n13 : Int) < ((x0l : Nat) : Int)) ∧ (asPtr (.pointer x0a) (fun a14 => (ldH h6 (Addr.add a14 (n13.toNat * 8)) (fun v15 => (asInt .i64 v15 (fun n16 => (asInt .i64 v3 (fun n17 => (((0 : Int) ≤ n17) ∧ (((n17 : Int) < ((x0l : Nat) : Int)) ∧ (asPtr (.pointer x0a) (fun a18 => (ldH h6 (Addr.add (Addr.add a18 (n17.toNat * 8)) 2) (fun v19 => (ldH h6 (Addr.add (Addr.add a18 (n17.toNat * 8)) 3) (fun v20 => (ldH h6 (Addr.add (Addr.add a18 (n17.toNat * 8)) 4) (fun v21 => (asInt .i64 v3 (fun n22 => (((cellAt (Array.push h6 (.cells #[(.int .i64 0), (.int .i64 0), (.int .u32 0), (.int .u32 0), (.int .i64 0), (.int .u32 0), (.int .u32 0), (.int .i64 0), (.int .i64 0)] 65)) (Addr.add (Addr.add a18 (n17.toNat * 8)) 2)) = (some v19)) ∧ (((cellAt (Array.push h6 (.cells #[(.int .i64 0), (.int .i64 0), (.int .u32 0), (.int .u32 0), (.int .i64 0), (.int .u32 0), (.int .u32 0), (.int .i64 0), (.int .i64 0)] 65)) (Addr.add (Addr.add a18 (n17.toNat * 8)) 3)) = (some v20)) ∧ (((cellAt (Array.push h6 (.cells #[(.int .i64 0), (.int .i64 0), (.int .u32 0), (.int .u32 0), (.int .i64 0), (.int .u32 0), (.int .u32 0), (.int .i64 0), (.int .i64 0)] 65)) (Addr.add (Addr.add a18 (n17.toNat * 8)) 4)) = (some v21)) ∧ (((cellAt (Array.push h6 (.cells #[(.int .i64 0), (.int .i64 0), (.int .u32 0), (.int .u32 0), (.int .i64 0), (.int .u32 0), (.int .u32 0), (.int .i64 0), (.int .i64 0)] 65)) (Addr.add a14 (n13.toNat * 8))) = (some v15)) ∧ (stH (Array.push h6 (.cells #[(.int .i64 0), (.int .i64 0), (.int .u32 0), (.int .u32 0), (.int .i64 0), (.int .u32 0), (.int .u32 0), (.int .i64 0), (.int .i64 0)] 65)) ⟨h6.size, 0, none⟩ (.int .i64 n16) (fun h23 => (stH h23 ⟨h6.size, 1, none⟩ v19 (fun h24 => (stH h24 ⟨h6.size, 2, none⟩ v20 (fun h25 => (stH h25 ⟨h6.size, 3, none⟩ v21 (fun h26 => (stH h26 ⟨h6.size, 4, none⟩ (.int .i64 0) (fun h27 => (stH h27 ⟨h6.size, 5, none⟩ (.int .u32 0) (fun h28 => (stH h28 ⟨h6.size, 6, none⟩ (.int .u32 0) (fun h29 => (stH h29 ⟨h6.size, 7, none⟩ (.int .i64 n22) (fun h30 => (stH h30 ⟨h6.size, 8, none⟩ (.int .i64 (-1)) (fun h31 => (asInt .i64 v3 (fun n32 => (exI (fun I33 => (exM (fun m34 => ((I33 [(.int .i64 (IntKind.wrap .i64 (n32 + 1)))] h31) ∧ (∀ v35 : Value, (∀ g36 : Env, (∀ h37 : Heap, ((I33 [v35] h37) → (exI (fun I38 => ((asInt .i64 v35 (fun n39 => (ifB (decide (n39 < ((x0l : Nat) : Int))) (ldH h37 ⟨h6.size, 8, none⟩ (fun v40 => (asInt .i64 v40 (fun n41 => (I38 [(.bool (decide (n41 < 0)))] h37))))) (I38 [(.bool false)] h37)))) ∧ (∀ v42 : Value, (∀ g43 : Env, (∀ h44 : Heap, ((I38 [v42] h44) → (asBool v42 (fun b45 => (ifB b45 (exI (fun I46 => ((asInt .i64 v35 (fun n47 => (((0 : Int) ≤ n47) ∧ (((n47 : Int) < ((x0l : Nat) : Int)) ∧ (asPtr (.pointer x0a) (fun a48 => (ldH h44 (Addr.add a48 (n47.toNat * 8)) (fun v49 => (asInt .i64 v49 (fun n50 => (ldH h44 ⟨h6.size, 0, none⟩ (fun v51 => (asInt .i64 v51 (fun n52 => (ifB (n50 == n52) (asInt .i64 v35 (fun n53 => (stH h44 ⟨h6.size, 8, none⟩ (.int .i64 n53) (fun h54 => (asInt .i64 v35 (fun n55 => (((0 : Int) ≤ n55) ∧ (((n55 : Int) < ((x0l : Nat) : Int)) ∧ (asPtr (.pointer x0a) (fun a56 => (ldH h54 (Addr.add (Addr.add a56 (n55.toNat * 8)) 5) (fun v57 => (ldH h54 (Addr.add (Addr.add a56 (n55.toNat * 8)) 6) (fun v58 => (ldH h54 (Addr.add (Addr.add a56 (n55.toNat * 8)) 7) (fun v59 => (stH h54 ⟨h6.size, 4, none⟩ v57 (fun h60 => (stH h60 (Addr.add ⟨h6.size, 0, none⟩ 5) v58 (fun h61 => (stH h61 (Addr.add ⟨h6.size, 0, none⟩ 6) v59 (fun h62 => (I46 [] h62))))))))))))))))))))))) (I46 [] h44)))))))))))))))) ∧ (∀ g63 : Env, (∀ h64 : Heap, ((I46 [] h64) → (asInt .i64 v35 (fun n65 => ((I33 [(.int .i64 (IntKind.wrap .i64 (n65 + 1)))] h64) ∧ ((m34 [(.int .i64 (IntKind.wrap .i64 (n65 + 1)))] h64) < (m34 [v35] h37))))))))))) (asSlice v2 (fun o66 k67 k68 => (ldH h44 ⟨h6.size, 0, none⟩ (fun v69 => (ldH h44 ⟨h6.size, 1, none⟩ (fun v70 => (ldH h44 ⟨h6.size, 2, none⟩ (fun v71 => (ldH h44 ⟨h6.size, 3, none⟩ (fun v72 => (ldH h44 ⟨h6.size, 4, none⟩ (fun v73 => (ldH h44 ⟨h6.size, 5, none⟩ (fun v74 => (ldH h44 ⟨h6.size, 6, none⟩ (fun v75 => (ldH h44 ⟨h6.size, 7, none⟩ (fun v76 => (ldH h44 ⟨h6.size, 8, none⟩ (fun v77 => (appH Try.prog #[59, 59] 59 #[(.slice o66 k67 k68), (.slice (some ⟨h44.size, 0, none⟩) 1 1)] (Array.push h44 (.cells #[v69, v70, v71, v72, v73, v74, v75, v76, v77] 65)) (fun v78 h79 => (asSlice v78 (fun o80 k81 k82 => (I8 [(.slice o80 k81 k82), v35] h79))))))))))))))))))))))))))))))))))))))))))))))))))))))))))))))))))))))))))))))))))))))))))))))))))))))) ∧ (∀ v83 : Value, (∀ v84 : Value, (∀ g85 : Env, (∀ h86 : Heap, ((I8 [v83, v84] h86) → (asInt .i64 v3 (fun n87 => ((I0 [v83, (.int .i64 (IntKind.wrap .i64 (n87 + 1))), v84] h86) ∧ ((m1 [v83, (.int .i64 (IntKind.wrap .i64 (n87 + 1))), v84] h86) < (m1 [v2, v3, v4] h6))))))))))))) (asSlice v2 (fun o88 k89 k90 => (K (.slice o88 k89 k90) h6)))))))))))))))))
theorem vc27 (K : Value → Heap → Prop) (h : Heap) (x0a : Option Addr) (x0l x0c : Nat) : vc Try.prog (bodyOf Try.f27) (retQ Try.prog Try.f27.results.toList (hasRange (bodyOf Try.f27)) h.size K) (envL [(.slice x0a x0l x0c)]) h = F27 K h x0a x0l x0c := by kernel_rfl
theorem ok27 : fnOk Try.prog Try.f27 1 = true := by kernel_rfl
theorem call27 {K : Value → Heap → Prop} {h : Heap} {x0a : Option Addr} {x0l x0c : Nat} (H : F27 K h x0a x0l x0c) : CallH Try.prog 27 #[(.slice x0a x0l x0c)] h K :=
  callH_mk Try.func27 ok27 (Eq.mp (vc27 K h x0a x0l x0c).symm H)

/-- jostle/jostleref12.May -/
def F46 (K : Value → Heap → Prop) (h : Heap) (x0a : Option Addr) (x0l x0c : Nat) (x1 : Int) : Prop :=
  (((0 : Int) ≤ x1) ∧ (((x1 : Int) < ((x0l : Nat) : Int)) ∧ (asPtr (.pointer x0a) (fun a0 => (ldH h (Addr.add a0 (x1.toNat * 8)) (fun v1 => (ldH h (Addr.add (Addr.add a0 (x1.toNat * 8)) 1) (fun v2 => (ldH h (Addr.add (Addr.add a0 (x1.toNat * 8)) 2) (fun v3 => (ldH h (Addr.add (Addr.add a0 (x1.toNat * 8)) 3) (fun v4 => (ldH h (Addr.add (Addr.add a0 (x1.toNat * 8)) 4) (fun v5 => (ldH h (Addr.add (Addr.add a0 (x1.toNat * 8)) 5) (fun v6 => (ldH h (Addr.add (Addr.add a0 (x1.toNat * 8)) 6) (fun v7 => (ldH h (Addr.add (Addr.add a0 (x1.toNat * 8)) 7) (fun v8 => (stH (Array.push h (.cells #[(.int .i64 0), (.bool false), (.int .i64 0), (.int .u32 0), (.int .u32 0), (.int .i64 0), (.int .u32 0), (.int .u32 0)] 71)) ⟨h.size, 0, none⟩ v1 (fun h9 => (stH h9 ⟨h.size, 1, none⟩ v2 (fun h10 => (stH h10 ⟨h.size, 2, none⟩ v3 (fun h11 => (stH h11 ⟨h.size, 3, none⟩ v4 (fun h12 => (stH h12 ⟨h.size, 4, none⟩ v5 (fun h13 => (stH h13 ⟨h.size, 5, none⟩ v6 (fun h14 => (stH h14 ⟨h.size, 6, none⟩ v7 (fun h15 => (stH h15 ⟨h.size, 7, none⟩ v8 (fun h16 => (ldH h16 ⟨h.size, 0, none⟩ (fun v17 => (asInt .i64 v17 (fun n18 => (callV Try.prog (.func (.func 63) #[] #[]) #[(.slice x0a x0l x0c), (.int .i64 x1), (.int .i64 n18)] h16 (fun v19 h20 => (asInt .i64 v19 (fun n21 => (exI (fun I22 => ((ldH h20 ⟨h.size, 0, none⟩ (fun v23 => (asInt .i64 v23 (fun n24 => (ifB (decide (n24 < 0)) (I22 [(.bool true)] h20) (ldH h20 ⟨h.size, 0, none⟩ (fun v25 => (asInt .i64 v25 (fun n26 => (I22 [(.bool (decide (n26 > 5)))] h20)))))))))) ∧ (∀ v27 : Value, (∀ g28 : Env, (∀ h29 : Heap, ((I22 [v27] h29) → (asBool v27 (fun b30 => (ifB b30 (K (.int .i64 2) h29) (ldH h29 ⟨h.size, 1, none⟩ (fun v31 => (asBool v31 (fun b32 => (ifB b32 (ifB (decide (n21 < 0)) (K (.int .i64 4) h29) (((0 : Int) ≤ n21) ∧ (((n21 : Int) < ((x0l : Nat) : Int)) ∧ (asPtr (.pointer x0a) (fun a33 => (ldH h29 (Addr.add (Addr.add a33 (n21.toNat * 8)) 2) (fun v34 => (ldH h29 (Addr.add (Addr.add a33 (n21.toNat * 8)) 3) (fun v35 => (ldH h29 (Addr.add (Addr.add a33 (n21.toNat * 8)) 4) (fun v36 => (ldH h29 ⟨h.size, 5, none⟩ (fun v37 => (ldH h29 (Addr.add ⟨h.size, 0, none⟩ 6) (fun v38 => (ldH h29 (Addr.add ⟨h.size, 0, none⟩ 7) (fun v39 => (callV Try.prog (.func (.func 29) #[] #[]) #[(.agg #[v34, v35, v36]), (.agg #[v37, v38, v39])] h29 (fun v40 h41 => (asBool v40 (fun b42 => (ifB (!b42) (K (.int .i64 1) h41) (K (.int .i64 0) h41))))))))))))))))))))))) (ldH h29 ⟨h.size, 2, none⟩ (fun v43 => (ldH h29 (Addr.add ⟨h.size, 0, none⟩ 3) (fun v44 => (ldH h29 (Addr.add ⟨h.size, 0, none⟩ 4) (fun v45 => (callV Try.prog (.func (.func 48) #[] #[]) #[(.agg #[v43, v44, v45])] h29 (fun v46 h47 => (asBool v46 (fun b48 => (ifB (!b48) (K (.int .i64 1) h47) (ifB (decide (n21 ≥ 0)) (K (.int .i64 5) h47) (K (.int .i64 0) h47))))))))))))))))))))))))))))))))))))))))))))))))))))))))))))))))))))))))
theorem vc46 (K : Value → Heap → Prop) (h : Heap) (x0a : Option Addr) (x0l x0c : Nat) (x1 : Int) : vc Try.prog (bodyOf Try.f46) (retQ Try.prog Try.f46.results.toList (hasRange (bodyOf Try.f46)) h.size K) (envL [(.slice x0a x0l x0c), (.int .i64 x1)]) h = F46 K h x0a x0l x0c x1 := by kernel_rfl
theorem ok46 : fnOk Try.prog Try.f46 2 = true := by kernel_rfl
theorem call46 {K : Value → Heap → Prop} {h : Heap} {x0a : Option Addr} {x0l x0c : Nat} {x1 : Int} (H : F46 K h x0a x0l x0c x1) : CallH Try.prog 46 #[(.slice x0a x0l x0c), (.int .i64 x1)] h K :=
  callH_mk Try.func46 ok46 (Eq.mp (vc46 K h x0a x0l x0c x1).symm H)

/-- jostle/hist.Opers -/
def F45 (K : Value → Heap → Prop) (h : Heap) (x0a : Option Addr) (x0l x0c : Nat) : Prop :=
  (callV Try.prog (.func (.func 62) #[] #[]) #[(.slice x0a x0l x0c)] h (fun v0 h1 => (asBool v0 (fun b2 => (ifB (!b2) (K (.tuple #[(.slice none 0 0), (.int .i64 11)]) h1) (exI (fun I3 => (exM (fun m4 => ((I3 [(.slice none 0 0), (.tuple #[]), (.tuple #[]), (.int .i64 0)] (Array.push h1 (.map #[] 0))) ∧ (∀ v5 : Value, (∀ v6 : Value, (∀ v7 : Value, (∀ v8 : Value, (∀ g9 : Env, (∀ h10 : Heap, ((I3 [v5, v6, v7, v8] h10) → (asInt .i64 v8 (fun n11 => (ifB (decide (n11 < ((x0l : Nat) : Int))) (asInt .i64 v8 (fun n12 => (asI v8 (fun n13 => (((0 : Int) ≤ n13) ∧ (((n13 : Int) < ((x0l : Nat) : Int)) ∧ (asPtr (.pointer x0a) (fun a14 => (ldH h10 (Addr.add a14 (n13.toNat * 8)) (fun v15 => (ldH h10 (Addr.add (Addr.add a14 (n13.toNat * 8)) 1) (fun v16 => (ldH h10 (Addr.add (Addr.add a14 (n13.toNat * 8)) 2) (fun v17 => (ldH h10 (Addr.add (Addr.add a14 (n13.toNat * 8)) 3) (fun v18 => (ldH h10 (Addr.add (Addr.add a14 (n13.toNat * 8)) 4) (fun v19 => (ldH h10 (Addr.add (Addr.add a14 (n13.toNat * 8)) 5) (fun v20 => (ldH h10 (Addr.add (Addr.add a14 (n13.toNat * 8)) 6) (fun v21 => (ldH h10 (Addr.add (Addr.add a14 (n13.toNat * 8)) 7) (fun v22 => (stH (Array.push h10 (.cells #[(.int .i64 0), (.bool false), (.int .i64 0), (.int .u32 0), (.int .u32 0), (.int .i64 0), (.int .u32 0), (.int .u32 0)] 71)) ⟨h10.size, 0, none⟩ v15 (fun h23 => (stH h23 ⟨h10.size, 1, none⟩ v16 (fun h24 => (stH h24 ⟨h10.size, 2, none⟩ v17 (fun h25 => (stH h25 ⟨h10.size, 3, none⟩ v18 (fun h26 => (stH h26 ⟨h10.size, 4, none⟩ v19 (fun h27 => (stH h27 ⟨h10.size, 5, none⟩ v20 (fun h28 => (stH h28 ⟨h10.size, 6, none⟩ v21 (fun h29 => (stH h29 ⟨h10.size, 7, none⟩ v22 (fun h30 => (ldH h30 ⟨h10.size, 1, none⟩ (fun v31 => (asBool v31 (fun b32 => (ifB (!b32) (ldH h30 ⟨h10.size, 0, none⟩ (fun v33 => (asInt .i64 v33 (fun n34 => (asSlice v5 (fun o35 k36 k37 => (mupdH Try.prog 108 (.map (some h1.size)) (.int .i64 n34) (.int .i64 ((k36 : Nat) : Int)) h30 (fun h38 => (asSlice v5 (fun o39 k40 k41 => (ldH h38 ⟨h10.size, 0, none⟩ (fun v42 => (asInt .i64 v42 (fun n43 => (ldH h38 ⟨h10.size, 2, none⟩ (fun v44 => (ldH h38 (Addr.add ⟨h10.size, 0, none⟩ 3) (fun v45 => (ldH h38 (Addr.add ⟨h10.size, 0, none⟩ 4) (fun v46 => (appH Try.prog #[59, 59] 59 #[(.slice o39 k40 k41), (.slice (some ⟨h38.size, 0, none⟩) 1 1)] (Array.push h38 (.cells #[(.int .i64 n43), v44, v45, v46, (.int .i64 0), (.int .u32 0), (.int .u32 0), (.int .i64 n12), (.int .i64 (-1))] 65)) (fun v47 h48 => (asSlice v47 (fun o49 k50 k51 => (asInt .i64 v8 (fun n52 => ((I3 [(.slice o49 k50 k51), (.int .i64 n12), v7, (.int .i64 (IntKind.wrap .i64 (n52 + 1)))] h48) ∧ ((m4 [(.slice o49 k50 k51), (.int .i64 n12), v7, (.int .i64 (IntKind.wrap .i64 (n52 + 1)))] h48) < (m4 [v5, v6, v7, v8] h10))))))))))))))))))))))))))))) (asSlice v5 (fun o53 k54 k55 => (ldH h30 ⟨h10.size, 0, none⟩ (fun v56 => (asInt .i64 v56 (fun n57 => (lookH Try.prog 108 (.map (some h1.size)) (.int .i64 n57) false h30 (fun v58 h59 => (asInt .i64 v58 (fun n60 => (((0 : Int) ≤ n60) ∧ (((n60 : Int) < ((k54 : Nat) : Int)) ∧ (asPtr (.pointer o53) (fun a61 => (ldH h59 ⟨h10.size, 5, none⟩ (fun v62 => (ldH h59 (Addr.add ⟨h10.size, 0, none⟩ 6) (fun v63 => (ldH h59 (Addr.add ⟨h10.size, 0, none⟩ 7) (fun v64 => (nilC (.pointer (some (Addr.add a61 (n60.toNat * 9)))) (stH h59 (Addr.add (Addr.add a61 (n60.toNat * 9)) 4) v62 (fun h65 => (stH h65 (Addr.add (Addr.add a61 (n60.toNat * 9)) 5) v63 (fun h66 => (stH h66 (Addr.add (Addr.add a61 (n60.toNat * 9)) 6) v64 (fun h67 => (nilC (.pointer (some (Addr.add a61 (n60.toNat * 9)))) (stH h67 (Addr.add (Addr.add a61 (n60.toNat * 9)) 8) (.int .i64 n12) (fun h68 => (asInt .i64 v8 (fun n69 => ((I3 [v5, (.int .i64 n12), (.pointer (some (Addr.add a61 (n60.toNat * 9)))), (.int .i64 (IntKind.wrap .i64 (n69 + 1)))] h68) ∧ ((m4 [v5, (.int .i64 n12), (.pointer (some (Addr.add a61 (n60.toNat * 9)))), (.int .i64 (IntKind.wrap .i64 (n69 + 1)))] h68) < (m4 [v5, v6, v7, v8] h10)))))))))))))))))))))))))))))))))))))))))))))))))))))))))))))))))))))))))))))))) (asSlice v5 (fun o70 k71 k72 => (K (.tuple #[(.slice o70 k71 k72), (.int .i64 0)]) h10)))))))))))))))))))))))
theorem vc45 (K : Value → Heap → Prop) (h : Heap) (x0a : Option Addr) (x0l x0c : Nat) : vc Try.prog (bodyOf Try.f45) (retQ Try.prog Try.f45.results.toList (hasRange (bodyOf Try.f45)) h.size K) (envL [(.slice x0a x0l x0c)]) h = F45 K h x0a x0l x0c := by kernel_rfl
theorem ok45 : fnOk Try.prog Try.f45 1 = true := by kernel_rfl
theorem call45 {K : Value → Heap → Prop} {h : Heap} {x0a : Option Addr} {x0l x0c : Nat} (H : F45 K h x0a x0l x0c) : CallH Try.prog 45 #[(.slice x0a x0l x0c)] h K :=
  callH_mk Try.func45 ok45 (Eq.mp (vc45 K h x0a x0l x0c).symm H)

/-- jostle/jostleref12.open -/
def F63 (K : Value → Heap → Prop) (h : Heap) (x0a : Option Addr) (x0l x0c : Nat) (x1 : Int) (x2 : Int) : Prop :=
  (exI (fun I0 => (exM (fun m1 => ((I0 [(.int .i64 0), (.int .i64 (IntKind.wrap .i64 (x1 - 1)))] h) ∧ (∀ v2 : Value, (∀ v3 : Value, (∀ g4 : Env, (∀ h5 : Heap, ((I0 [v2, v3] h5) → (asInt .i64 v3 (fun n6 => (ifB (decide (n6 ≥ 0)) (asInt .i64 v3 (fun n7 => (((0 : Int) ≤ n7) ∧ (((n7 : Int) < ((x0l : Nat) : Int)) ∧ (asPtr (.pointer x0a) (fun a8 => (ldH h5 (Addr.add a8 (n7.toNat * 8)) (fun v9 => (asInt .i64 v9 (fun n10 => (ifB (n10 == x2) (asInt .i64 v3 (fun n11 => (((0 : Int) ≤ n11) ∧ (((n11 : Int) < ((x0l : Nat) : Int)) ∧ (asPtr (.pointer x0a) (fun a12 => (ldH h5 (Addr.add (Addr.add a12 (n11.toNat * 8)) 1) (fun v13 => (asBool v13 (fun b14 => (ifB b14 (K (.int .i64 (-1)) h5) (asInt .i64 v3 (fun n15 => (K (.int .i64 n15) h5)))))))))))))) (asInt .i64 v3 (fun n16 => ((I0 [v2, (.int .i64 (IntKind.wrap .i64 (n16 - 1)))] h5) ∧ ((m1 [v2, (.int .i64 (IntKind.wrap .i64 (n16 - 1)))] h5) < (m1 [v2, v3] h5)))))))))))))))) (K (.int .i64 (-1)) h5))))))))))))))
theorem vc63 (K : Value → Heap → Prop) (h : Heap) (x0a : Option Addr) (x0l x0c : Nat) (x1 : Int) (x2 : Int) : vc Try.prog (bodyOf Try.f63) (retQ Try.prog Try.f63.results.toList (hasRange (bodyOf Try.f63)) h.size K) (envL [(.slice x0a x0l x0c), (.int .i64 x1), (.int .i64 x2)]) h = F63 K h x0a x0l x0c x1 x2 := by kernel_rfl
theorem ok63 : fnOk Try.prog Try.f63 3 = true := by kernel_rfl
theorem call63 {K : Value → Heap → Prop} {h : Heap} {x0a : Option Addr} {x0l x0c : Nat} {x1 : Int} {x2 : Int} (H : F63 K h x0a x0l x0c x1 x2) : CallH Try.prog 63 #[(.slice x0a x0l x0c), (.int .i64 x1), (.int .i64 x2)] h K :=
  callH_mk Try.func63 ok63 (Eq.mp (vc63 K h x0a x0l x0c x1 x2).symm H)

/-- jostle/jostleref12.Fits -/
def F29 (K : Value → Heap → Prop) (h : Heap) (x0_0 : Int) (x0_1 : Int) (x0_2 : Int) (x1_0 : Int) (x1_1 : Int) (x1_2 : Int) : Prop :=
  (ldH (Array.push (Array.push h (.cells #[(.int .i64 x0_0), (.int .u32 x0_1), (.int .u32 x0_2)] 40)) (.cells #[(.int .i64 x1_0), (.int .u32 x1_1), (.int .u32 x1_2)] 42)) ⟨h.size, 0, none⟩ (fun v0 => (ldH (Array.push (Array.push h (.cells #[(.int .i64 x0_0), (.int .u32 x0_1), (.int .u32 x0_2)] 40)) (.cells #[(.int .i64 x1_0), (.int .u32 x1_1), (.int .u32 x1_2)] 42)) ⟨h.size, 1, none⟩ (fun v1 => (ldH (Array.push (Array.push h (.cells #[(.int .i64 x0_0), (.int .u32 x0_1), (.int .u32 x0_2)] 40)) (.cells #[(.int .i64 x1_0), (.int .u32 x1_1), (.int .u32 x1_2)] 42)) ⟨h.size, 2, none⟩ (fun v2 => (callV Try.prog (.func (.func 48) #[] #[]) #[(.agg #[v0, v1, v2])] (Array.push (Array.push h (.cells #[(.int .i64 x0_0), (.int .u32 x0_1), (.int .u32 x0_2)] 40)) (.cells #[(.int .i64 x1_0), (.int .u32 x1_1), (.int .u32 x1_2)] 42)) (fun v3 h4 => (asBool v3 (fun b5 => (ifB b5 (ldH h4 ⟨(Array.push h (.cells #[(.int .i64 x0_0), (.int .u32 x0_1), (.int .u32 x0_2)] 40)).size, 0, none⟩ (fun v6 => (ldH h4 ⟨(Array.push h (.cells #[(.int .i64 x0_0), (.int .u32 x0_1), (.int .u32 x0_2)] 40)).size, 1, none⟩ (fun v7 => (ldH h4 ⟨(Array.push h (.cells #[(.int .i64 x0_0), (.int .u32 x0_1), (.int .u32 x0_2)] 40)).size, 2, none⟩ (fun v8 => (callV Try.prog (.func (.func 49) #[] #[]) #[(.agg #[v6, v7, v8])] h4 (fun v9 h10 => (asBool v9 (fun b11 => (ifB b11 (ldH h10 ⟨h.size, 0, none⟩ (fun v12 => (asInt .i64 v12 (fun n13 => (ldH h10 ⟨(Array.push h (.cells #[(.int .i64 x0_0), (.int .u32 x0_1), (.int .u32 x0_2)] 40)).size, 0, none⟩ (fun v14 => (asInt .i64 v14 (fun n15 => (K (.bool ((n13 == 0) == (decide (n15 < 2)))) h10))))))))) (K (.bool false) h10)))))))))))) (K (.bool false) h4))))))))))))
theorem vc29 (K : Value → Heap → Prop) (h : Heap) (x0_0 : Int) (x0_1 : Int) (x0_2 : Int) (x1_0 : Int) (x1_1 : Int) (x1_2 : Int) : vc Try.prog (bodyOf Try.f29) (retQ Try.prog Try.f29.results.toList (hasRange (bodyOf Try.f29)) h.size K) (envL [(.agg #[(.int .i64 x0_0), (.int .u32 x0_1), (.int .u32 x0_2)]), (.agg #[(.int .i64 x1_0), (.int .u32 x1_1), (.int .u32 x1_2)])]) h = F29 K h x0_0 x0_1 x0_2 x1_0 x1_1 x1_2 := by kernel_rfl
theorem ok29 : fnOk Try.prog Try.f29 2 = true := by kernel_rfl
theorem call29 {K : Value → Heap → Prop} {h : Heap} {x0_0 : Int} {x0_1 : Int} {x0_2 : Int} {x1_0 : Int} {x1_1 : Int} {x1_2 : Int} (H : F29 K h x0_0 x0_1 x0_2 x1_0 x1_1 x1_2) : CallH Try.prog 29 #[(.agg #[(.int .i64 x0_0), (.int .u32 x0_1), (.int .u32 x0_2)]), (.agg #[(.int .i64 x1_0), (.int .u32 x1_1), (.int .u32 x1_2)])] h K :=
  callH_mk Try.func29 ok29 (Eq.mp (vc29 K h x0_0 x0_1 x0_2 x1_0 x1_1 x1_2).symm H)

/-- jostle/jostleref09.Right -/
def F48 (K : Value → Heap → Prop) (h : Heap) (x0_0 : Int) (x0_1 : Int) (x0_2 : Int) : Prop :=
  (ldH (Array.push h (.cells #[(.int .i64 x0_0), (.int .u32 x0_1), (.int .u32 x0_2)] 40)) ⟨h.size, 0, none⟩ (fun v0 => (asInt .i64 v0 (fun n1 => (ifB (n1 == 0) (K (.bool true) (Array.push h (.cells #[(.int .i64 x0_0), (.int .u32 x0_1), (.int .u32 x0_2)] 40))) (ldH (Array.push h (.cells #[(.int .i64 x0_0), (.int .u32 x0_1), (.int .u32 x0_2)] 40)) ⟨h.size, 0, none⟩ (fun v2 => (asInt .i64 v2 (fun n3 => (ifB (n3 == 1) (ldH (Array.push h (.cells #[(.int .i64 x0_0), (.int .u32 x0_1), (.int .u32 x0_2)] 40)) ⟨h.size, 1, none⟩ (fun v4 => (asInt .u32 v4 (fun n5 => (ifB (n5 == 0) (ldH (Array.push h (.cells #[(.int .i64 x0_0), (.int .u32 x0_1), (.int .u32 x0_2)] 40)) ⟨h.size, 2, none⟩ (fun v6 => (asInt .u32 v6 (fun n7 => (K (.bool (n7 == 0)) (Array.push h (.cells #[(.int .i64 x0_0), (.int .u32 x0_1), (.int .u32 x0_2)] 40))))))) (K (.bool false) (Array.push h (.cells #[(.int .i64 x0_0), (.int .u32 x0_1), (.int .u32 x0_2)] 40)))))))) (ldH (Array.push h (.cells #[(.int .i64 x0_0), (.int .u32 x0_1), (.int .u32 x0_2)] 40)) ⟨h.size, 0, none⟩ (fun v8 => (asInt .i64 v8 (fun n9 => (ifB (n9 == 2) (ldH (Array.push h (.cells #[(.int .i64 x0_0), (.int .u32 x0_1), (.int .u32 x0_2)] 40)) ⟨h.size, 1, none⟩ (fun v10 => (asInt .u32 v10 (fun n11 => (ifB (n11 == 0) (ldH (Array.push h (.cells #[(.int .i64 x0_0), (.int .u32 x0_1), (.int .u32 x0_2)] 40)) ⟨h.size, 2, none⟩ (fun v12 => (asInt .u32 v12 (fun n13 => (K (.bool (n13 == 0)) (Array.push h (.cells #[(.int .i64 x0_0), (.int .u32 x0_1), (.int .u32 x0_2)] 40))))))) (K (.bool false) (Array.push h (.cells #[(.int .i64 x0_0), (.int .u32 x0_1), (.int .u32 x0_2)] 40)))))))) (K (.bool false) (Array.push h (.cells #[(.int .i64 x0_0), (.int .u32 x0_1), (.int .u32 x0_2)] 40))))))))))))))))))
theorem vc48 (K : Value → Heap → Prop) (h : Heap) (x0_0 : Int) (x0_1 : Int) (x0_2 : Int) : vc Try.prog (bodyOf Try.f48) (retQ Try.prog Try.f48.results.toList (hasRange (bodyOf Try.f48)) h.size K) (envL [(.agg #[(.int .i64 x0_0), (.int .u32 x0_1), (.int .u32 x0_2)])]) h = F48 K h x0_0 x0_1 x0_2 := by kernel_rfl
theorem ok48 : fnOk Try.prog Try.f48 1 = true := by kernel_rfl
theorem call48 {K : Value → Heap → Prop} {h : Heap} {x0_0 : Int} {x0_1 : Int} {x0_2 : Int} (H : F48 K h x0_0 x0_1 x0_2) : CallH Try.prog 48 #[(.agg #[(.int .i64 x0_0), (.int .u32 x0_1), (.int .u32 x0_2)])] h K :=
  callH_mk Try.func48 ok48 (Eq.mp (vc48 K h x0_0 x0_1 x0_2).symm H)

/-- jostle/hist.Right -/
def F62 (K : Value → Heap → Prop) (h : Heap) (x0a : Option Addr) (x0l x0c : Nat) : Prop :=
  (exI (fun I0 => (exM (fun m1 => ((I0 [(.bool false), (.int .i64 0)] (Array.push h (.cells #[(.slice none 0 0), (.map none)] 129))) ∧ (∀ v2 : Value, (∀ v3 : Value, (∀ g4 : Env, (∀ h5 : Heap, ((I0 [v2, v3] h5) → (asInt .i64 v3 (fun n6 => (ifB (decide (n6 < ((x0l : Nat) : Int))) (asI v3 (fun n7 => (((0 : Int) ≤ n7) ∧ (((n7 : Int) < ((x0l : Nat) : Int)) ∧ (asPtr (.pointer x0a) (fun a8 => (ldH h5 (Addr.add a8 (n7.toNat * 8)) (fun v9 => (ldH h5 (Addr.add (Addr.add a8 (n7.toNat * 8)) 1) (fun v10 => (ldH h5 (Addr.add (Addr.add a8 (n7.toNat * 8)) 2) (fun v11 => (ldH h5 (Addr.add (Addr.add a8 (n7.toNat * 8)) 3) (fun v12 => (ldH h5 (Addr.add (Addr.add a8 (n7.toNat * 8)) 4) (fun v13 => (ldH h5 (Addr.add (Addr.add a8 (n7.toNat * 8)) 5) (fun v14 => (ldH h5 (Addr.add (Addr.add a8 (n7.toNat * 8)) 6) (fun v15 => (ldH h5 (Addr.add (Addr.add a8 (n7.toNat * 8)) 7) (fun v16 => (stH (Array.push h5 (.cells #[(.int .i64 0), (.bool false), (.int .i64 0), (.int .u32 0), (.int .u32 0), (.int .i64 0), (.int .u32 0), (.int .u32 0)] 71)) ⟨h5.size, 0, none⟩ v9 (fun h17 => (stH h17 ⟨h5.size, 1, none⟩ v10 (fun h18 => (stH h18 ⟨h5.size, 2, none⟩ v11 (fun h19 => (stH h19 ⟨h5.size, 3, none⟩ v12 (fun h20 => (stH h20 ⟨h5.size, 4, none⟩ v13 (fun h21 => (stH h21 ⟨h5.size, 5, none⟩ v14 (fun h22 => (stH h22 ⟨h5.size, 6, none⟩ v15 (fun h23 => (stH h23 ⟨h5.size, 7, none⟩ v16 (fun h24 => (ldH h24 ⟨h5.size, 0, none⟩ (fun v25 => (ldH h24 ⟨h5.size, 1, none⟩ (fun v26 => (ldH h24 ⟨h5.size, 2, none⟩ (fun v27 => (ldH h24 ⟨h5.size, 3, none⟩ (fun v28 => (ldH h24 ⟨h5.size, 4, none⟩ (fun v29 => (ldH h24 ⟨h5.size, 5, none⟩ (fun v30 => (ldH h24 ⟨h5.size, 6, none⟩ (fun v31 => (ldH h24 ⟨h5.size, 7, none⟩ (fun v32 => (callV Try.prog (.func (.func 77) #[] #[]) #[(.pointer (some ⟨h.size, 0, none⟩)), (.agg #[v25, v26, v27, v28, v29, v30, v31, v32])] h24 (fun v33 h34 => (asBool v33 (fun b35 => (ifB (!b35) (K (.bool false) h34) (asInt .i64 v3 (fun n36 => ((I0 [v2, (.int .i64 (IntKind.wrap .i64 (n36 + 1)))] h34) ∧ ((m1 [v2, (.int .i64 (IntKind.wrap .i64 (n36 + 1)))] h34) < (m1 [v2, v3] h5)))))))))))))))))))))))))))))))))))))))))))))))))))))))))))))))) (K (.bool true) h5))))))))))))))
theorem vc62 (K : Value → Heap → Prop) (h : Heap) (x0a : Option Addr) (x0l x0c : Nat) : vc Try.prog (bodyOf Try.f62) (retQ Try.prog Try.f62.results.toList (hasRange (bodyOf Try.f62)) h.size K) (envL [(.slice x0a x0l x0c)]) h = F62 K h x0a x0l x0c := by kernel_rfl
theorem ok62 : fnOk Try.prog Try.f62 1 = true := by kernel_rfl
theorem call62 {K : Value → Heap → Prop} {h : Heap} {x0a : Option Addr} {x0l x0c : Nat} (H : F62 K h x0a x0l x0c) : CallH Try.prog 62 #[(.slice x0a x0l x0c)] h K :=
  callH_mk Try.func62 ok62 (Eq.mp (vc62 K h x0a x0l x0c).symm H)

/-- jostle/jostleref09.May -/
def F49 (K : Value → Heap → Prop) (h : Heap) (x0_0 : Int) (x0_1 : Int) (x0_2 : Int) : Prop :=
  (ldH (Array.push h (.cells #[(.int .i64 x0_0), (.int .u32 x0_1), (.int .u32 x0_2)] 42)) ⟨h.size, 0, none⟩ (fun v0 => (asInt .i64 v0 (fun n1 => (ifB (n1 == 2) (K (.bool true) (Array.push h (.cells #[(.int .i64 x0_0), (.int .u32 x0_1), (.int .u32 x0_2)] 42))) (ldH (Array.push h (.cells #[(.int .i64 x0_0), (.int .u32 x0_1), (.int .u32 x0_2)] 42)) ⟨h.size, 0, none⟩ (fun v2 => (asInt .i64 v2 (fun n3 => (ifB (n3 == 0) (ldH (Array.push h (.cells #[(.int .i64 x0_0), (.int .u32 x0_1), (.int .u32 x0_2)] 42)) ⟨h.size, 1, none⟩ (fun v4 => (asInt .u32 v4 (fun n5 => (ifB (n5 == 0) (ldH (Array.push h (.cells #[(.int .i64 x0_0), (.int .u32 x0_1), (.int .u32 x0_2)] 42)) ⟨h.size, 2, none⟩ (fun v6 => (asInt .u32 v6 (fun n7 => (K (.bool (n7 == 0)) (Array.push h (.cells #[(.int .i64 x0_0), (.int .u32 x0_1), (.int .u32 x0_2)] 42))))))) (K (.bool false) (Array.push h (.cells #[(.int .i64 x0_0), (.int .u32 x0_1), (.int .u32 x0_2)] 42)))))))) (ldH (Array.push h (.cells #[(.int .i64 x0_0), (.int .u32 x0_1), (.int .u32 x0_2)] 42)) ⟨h.size, 0, none⟩ (fun v8 => (asInt .i64 v8 (fun n9 => (ifB (n9 == 1) (ldH (Array.push h (.cells #[(.int .i64 x0_0), (.int .u32 x0_1), (.int .u32 x0_2)] 42)) ⟨h.size, 1, none⟩ (fun v10 => (asInt .u32 v10 (fun n11 => (ifB (n11 == 0) (ldH (Array.push h (.cells #[(.int .i64 x0_0), (.int .u32 x0_1), (.int .u32 x0_2)] 42)) ⟨h.size, 2, none⟩ (fun v12 => (asInt .u32 v12 (fun n13 => (K (.bool (n13 == 0)) (Array.push h (.cells #[(.int .i64 x0_0), (.int .u32 x0_1), (.int .u32 x0_2)] 42))))))) (K (.bool false) (Array.push h (.cells #[(.int .i64 x0_0), (.int .u32 x0_1), (.int .u32 x0_2)] 42)))))))) (ldH (Array.push h (.cells #[(.int .i64 x0_0), (.int .u32 x0_1), (.int .u32 x0_2)] 42)) ⟨h.size, 0, none⟩ (fun v14 => (asInt .i64 v14 (fun n15 => (ifB (n15 == 3) (ldH (Array.push h (.cells #[(.int .i64 x0_0), (.int .u32 x0_1), (.int .u32 x0_2)] 42)) ⟨h.size, 1, none⟩ (fun v16 => (asInt .u32 v16 (fun n17 => (ifB (n17 == 0) (ldH (Array.push h (.cells #[(.int .i64 x0_0), (.int .u32 x0_1), (.int .u32 x0_2)] 42)) ⟨h.size, 2, none⟩ (fun v18 => (asInt .u32 v18 (fun n19 => (K (.bool (n19 == 0)) (Array.push h (.cells #[(.int .i64 x0_0), (.int .u32 x0_1), (.int .u32 x0_2)] 42))))))) (K (.bool false) (Array.push h (.cells #[(.int .i64 x0_0), (.int .u32 x0_1), (.int .u32 x0_2)] 42)))))))) (K (.bool false) (Array.push h (.cells #[(.int .i64 x0_0), (.int .u32 x0_1), (.int .u32 x0_2)] 42)))))))))))))))))))))))
theorem vc49 (K : Value → Heap → Prop) (h : Heap) (x0_0 : Int) (x0_1 : Int) (x0_2 : Int) : vc Try.prog (bodyOf Try.f49) (retQ Try.prog Try.f49.results.toList (hasRange (bodyOf Try.f49)) h.size K) (envL [(.agg #[(.int .i64 x0_0), (.int .u32 x0_1), (.int .u32 x0_2)])]) h = F49 K h x0_0 x0_1 x0_2 := by kernel_rfl
theorem ok49 : fnOk Try.prog Try.f49 1 = true := by kernel_rfl
theorem call49 {K : Value → Heap → Prop} {h : Heap} {x0_0 : Int} {x0_1 : Int} {x0_2 : Int} (H : F49 K h x0_0 x0_1 x0_2) : CallH Try.prog 49 #[(.agg #[(.int .i64 x0_0), (.int .u32 x0_1), (.int .u32 x0_2)])] h K :=
  callH_mk Try.func49 ok49 (Eq.mp (vc49 K h x0_0 x0_1 x0_2).symm H)

/-- (*jostle/hist.Hist).again -/
def F77 (K : Value → Heap → Prop) (h : Heap) (x0 : Option Addr) (x1_0 : Int) (x1_1 : Bool) (x1_2_0 : Int) (x1_2_1 : Int) (x1_2_2 : Int) (x1_3_0 : Int) (x1_3_1 : Int) (x1_3_2 : Int) : Prop :=
  (ldH (Array.push h (.cells #[(.int .i64 x1_0), (.bool x1_1), (.int .i64 x1_2_0), (.int .u32 x1_2_1), (.int .u32 x1_2_2), (.int .i64 x1_3_0), (.int .u32 x1_3_1), (.int .u32 x1_3_2)] 71)) ⟨h.size, 1, none⟩ (fun v0 => (asBool v0 (fun b1 => (ifB b1 (ldH (Array.push h (.cells #[(.int .i64 x1_0), (.bool x1_1), (.int .i64 x1_2_0), (.int .u32 x1_2_1), (.int .u32 x1_2_2), (.int .i64 x1_3_0), (.int .u32 x1_3_1), (.int .u32 x1_3_2)] 71)) ⟨h.size, 2, none⟩ (fun v2 => (ldH (Array.push h (.cells #[(.int .i64 x1_0), (.bool x1_1), (.int .i64 x1_2_0), (.int .u32 x1_2_1), (.int .u32 x1_2_2), (.int .i64 x1_3_0), (.int .u32 x1_3_1), (.int .u32 x1_3_2)] 71)) (Addr.add ⟨h.size, 0, none⟩ 3) (fun v3 => (ldH (Array.push h (.cells #[(.int .i64 x1_0), (.bool x1_1), (.int .i64 x1_2_0), (.int .u32 x1_2_1), (.int .u32 x1_2_2), (.int .i64 x1_3_0), (.int .u32 x1_3_1), (.int .u32 x1_3_2)] 71)) (Addr.add ⟨h.size, 0, none⟩ 4) (fun v4 => (eqvH Try.prog 40 (.agg #[v2, v3, v4]) (.agg #[(.int .i64 0), (.int .u32 0), (.int .u32 0)]) (fun b5 => (ifB b5 (ldH (Array.push h (.cells #[(.int .i64 x1_0), (.bool x1_1), (.int .i64 x1_2_0), (.int .u32 x1_2_1), (.int .u32 x1_2_2), (.int .i64 x1_3_0), (.int .u32 x1_3_1), (.int .u32 x1_3_2)] 71)) ⟨h.size, 0, none⟩ (fun v6 => (asInt .i64 v6 (fun n7 => (ldH (Array.push h (.cells #[(.int .i64 x1_0), (.bool x1_1), (.int .i64 x1_2_0), (.int .u32 x1_2_1), (.int .u32 x1_2_2), (.int .i64 x1_3_0), (.int .u32 x1_3_1), (.int .u32 x1_3_2)] 71)) ⟨h.size, 5, none⟩ (fun v8 => (ldH (Array.push h (.cells #[(.int .i64 x1_0), (.bool x1_1), (.int .i64 x1_2_0), (.int .u32 x1_2_1), (.int .u32 x1_2_2), (.int .i64 x1_3_0), (.int .u32 x1_3_1), (.int .u32 x1_3_2)] 71)) (Addr.add ⟨h.size, 0, none⟩ 6) (fun v9 => (ldH (Array.push h (.cells #[(.int .i64 x1_0), (.bool x1_1), (.int .i64 x1_2_0), (.int .u32 x1_2_1), (.int .u32 x1_2_2), (.int .i64 x1_3_0), (.int .u32 x1_3_1), (.int .u32 x1_3_2)] 71)) (Addr.add ⟨h.size, 0, none⟩ 7) (fun v10 => (callV Try.prog (.func (.func 94) #[] #[]) #[(.pointer x0), (.int .i64 n7), (.agg #[v8, v9, v10])] (Array.push h (.cells #[(.int .i64 x1_0), (.bool x1_1), (.int .i64 x1_2_0), (.int .u32 x1_2_1), (.int .u32 x1_2_2), (.int .i64 x1_3_0), (.int .u32 x1_3_1), (.int .u32 x1_3_2)] 71)) (fun v11 h12 => (asInt .i64 v11 (fun n13 => (K (.bool (n13 == 0)) h12))))))))))))))) (K (.bool false) (Array.push h (.cells #[(.int .i64 x1_0), (.bool x1_1), (.int .i64 x1_2_0), (.int .u32 x1_2_1), (.int .u32 x1_2_2), (.int .i64 x1_3_0), (.int .u32 x1_3_1), (.int .u32 x1_3_2)] 71)))))))))))) (ldH (Array.push h (.cells #[(.int .i64 x1_0), (.bool x1_1), (.int .i64 x1_2_0), (.int .u32 x1_2_1), (.int .u32 x1_2_2), (.int .i64 x1_3_0), (.int .u32 x1_3_1), (.int .u32 x1_3_2)] 71)) ⟨h.size, 5, none⟩ (fun v14 => (ldH (Array.push h (.cells #[(.int .i64 x1_0), (.bool x1_1), (.int .i64 x1_2_0), (.int .u32 x1_2_1), (.int .u32 x1_2_2), (.int .i64 x1_3_0), (.int .u32 x1_3_1), (.int .u32 x1_3_2)] 71)) (Addr.add ⟨h.size, 0, none⟩ 6) (fun v15 => (ldH (Array.push h (.cells #[(.int .i64 x1_0), (.bool x1_1), (.int .i64 x1_2_0), (.int .u32 x1_2_1), (.int .u32 x1_2_2), (.int .i64 x1_3_0), (.int .u32 x1_3_1), (.int .u32 x1_3_2)] 71)) (Addr.add ⟨h.size, 0, none⟩ 7) (fun v16 => (eqvH Try.prog 42 (.agg #[v14, v15, v16]) (.agg #[(.int .i64 0), (.int .u32 0), (.int .u32 0)]) (fun b17 => (ifB b17 (ldH (Array.push h (.cells #[(.int .i64 x1_0), (.bool x1_1), (.int .i64 x1_2_0), (.int .u32 x1_2_1), (.int .u32 x1_2_2), (.int .i64 x1_3_0), (.int .u32 x1_3_1), (.int .u32 x1_3_2)] 71)) ⟨h.size, 0, none⟩ (fun v18 => (asInt .i64 v18 (fun n19 => (ldH (Array.push h (.cells #[(.int .i64 x1_0), (.bool x1_1), (.int .i64 x1_2_0), (.int .u32 x1_2_1), (.int .u32 x1_2_2), (.int .i64 x1_3_0), (.int .u32 x1_3_1), (.int .u32 x1_3_2)] 71)) ⟨h.size, 2, none⟩ (fun v20 => (ldH (Array.push h (.cells #[(.int .i64 x1_0), (.bool x1_1), (.int .i64 x1_2_0), (.int .u32 x1_2_1), (.int .u32 x1_2_2), (.int .i64 x1_3_0), (.int .u32 x1_3_1), (.int .u32 x1_3_2)] 71)) (Addr.add ⟨h.size, 0, none⟩ 3) (fun v21 => (ldH (Array.push h (.cells #[(.int .i64 x1_0), (.bool x1_1), (.int .i64 x1_2_0), (.int .u32 x1_2_1), (.int .u32 x1_2_2), (.int .i64 x1_3_0), (.int .u32 x1_3_1), (.int .u32 x1_3_2)] 71)) (Addr.add ⟨h.size, 0, none⟩ 4) (fun v22 => (callV Try.prog (.func (.func 95) #[] #[]) #[(.pointer x0), (.int .i64 n19), (.agg #[v20, v21, v22])] (Array.push h (.cells #[(.int .i64 x1_0), (.bool x1_1), (.int .i64 x1_2_0), (.int .u32 x1_2_1), (.int .u32 x1_2_2), (.int .i64 x1_3_0), (.int .u32 x1_3_1), (.int .u32 x1_3_2)] 71)) (fun v23 h24 => (asInt .i64 v23 (fun n25 => (K (.bool (n25 == 0)) h24))))))))))))))) (K (.bool false) (Array.push h (.cells #[(.int .i64 x1_0), (.bool x1_1), (.int .i64 x1_2_0), (.int .u32 x1_2_1), (.int .u32 x1_2_2), (.int .i64 x1_3_0), (.int .u32 x1_3_1), (.int .u32 x1_3_2)] 71)))))))))))))))))
theorem vc77 (K : Value → Heap → Prop) (h : Heap) (x0 : Option Addr) (x1_0 : Int) (x1_1 : Bool) (x1_2_0 : Int) (x1_2_1 : Int) (x1_2_2 : Int) (x1_3_0 : Int) (x1_3_1 : Int) (x1_3_2 : Int) : vc Try.prog (bodyOf Try.f77) (retQ Try.prog Try.f77.results.toList (hasRange (bodyOf Try.f77)) h.size K) (envL [(.pointer x0), (.agg #[(.int .i64 x1_0), (.bool x1_1), (.int .i64 x1_2_0), (.int .u32 x1_2_1), (.int .u32 x1_2_2), (.int .i64 x1_3_0), (.int .u32 x1_3_1), (.int .u32 x1_3_2)])]) h = F77 K h x0 x1_0 x1_1 x1_2_0 x1_2_1 x1_2_2 x1_3_0 x1_3_1 x1_3_2 := by kernel_rfl
theorem ok77 : fnOk Try.prog Try.f77 2 = true := by kernel_rfl
theorem call77 {K : Value → Heap → Prop} {h : Heap} {x0 : Option Addr} {x1_0 : Int} {x1_1 : Bool} {x1_2_0 : Int} {x1_2_1 : Int} {x1_2_2 : Int} {x1_3_0 : Int} {x1_3_1 : Int} {x1_3_2 : Int} (H : F77 K h x0 x1_0 x1_1 x1_2_0 x1_2_1 x1_2_2 x1_3_0 x1_3_1 x1_3_2) : CallH Try.prog 77 #[(.pointer x0), (.agg #[(.int .i64 x1_0), (.bool x1_1), (.int .i64 x1_2_0), (.int .u32 x1_2_1), (.int .u32 x1_2_2), (.int .i64 x1_3_0), (.int .u32 x1_3_1), (.int .u32 x1_3_2)])] h K :=
  callH_mk Try.func77 ok77 (Eq.mp (vc77 K h x0 x1_0 x1_1 x1_2_0 x1_2_1 x1_2_2 x1_3_0 x1_3_1 x1_3_2).symm H)

/-- (*jostle/hist.Hist).Respond -/
def F94 (K : Value → Heap → Prop) (h : Heap) (x0 : Option Addr) (x1 : Int) (x2_0 : Int) (x2_1 : Int) (x2_2 : Int) : Prop :=
  (ifB (Option.isNone x0) (K (.int .i64 1) (Array.push h (.cells #[(.int .i64 x2_0), (.int .u32 x2_1), (.int .u32 x2_2)] 42))) (callV Try.prog (.func (.func 113) #[] #[]) #[(.int .i64 x1)] (Array.push h (.cells #[(.int .i64 x2_0), (.int .u32 x2_1), (.int .u32 x2_2)] 42)) (fun v0 h1 => (asBool v0 (fun b2 => (ifB (!b2) (K (.int .i64 2) h1) (callV Try.prog (.func (.func 114) #[] #[]) #[(.pointer x0), (.int .i64 x1)] h1 (fun v3 h4 => (asBool v3 (fun b5 => (ifB (!b5) (K (.int .i64 4) h4) (nilC (.pointer x0) (asPtr (.pointer x0) (fun a6 => (ldH h4 (Addr.add a6 1) (fun v7 => (asMap v7 (fun o8 => (ldH h4 ⟨h.size, 0, none⟩ (fun v9 => (ldH h4 ⟨h.size, 1, none⟩ (fun v10 => (ldH h4 ⟨h.size, 2, none⟩ (fun v11 => (lookH Try.prog 127 (.map o8) (.int .i64 x1) false h4 (fun v12 h13 => (asAgg v12 (fun vs14 => (sizeH vs14 3 (elemH vs14 0 (fun v15 => (elemH vs14 1 (fun v16 => (elemH vs14 2 (fun v17 => (((cellAt h13 ⟨h.size, 0, none⟩) = (some v9)) ∧ (((cellAt h13 ⟨h.size, 1, none⟩) = (some v10)) ∧ (((cellAt h13 ⟨h.size, 2, none⟩) = (some v11)) ∧ (callV Try.prog (.func (.func 43) #[] #[]) #[(.agg #[v15, v16, v17]), (.agg #[v9, v10, v11])] h13 (fun v18 h19 => (asBool v18 (fun b20 => (ifB (!b20) (K (.int .i64 1) h19) (nilC (.pointer x0) (asPtr (.pointer x0) (fun a21 => (ldH h19 (Addr.add a21 1) (fun v22 => (asMap v22 (fun o23 => (mdelH Try.prog #[127, 3] 0 #[(.map o23), (.int .i64 x1)] h19 (fun v24 h25 => (nilC (.pointer x0) (asPtr (.pointer x0) (fun a26 => (ldH h25 a26 (fun v27 => (asSlice v27 (fun o28 k29 k30 => (ldH h25 ⟨h.size, 0, none⟩ (fun v31 => (ldH h25 ⟨h.size, 1, none⟩ (fun v32 => (ldH h25 ⟨h.size, 2, none⟩ (fun v33 => (((cellAt (Array.push h25 (.cells #[(.int .i64 x1), (.bool true), (.int .i64 0), (.int .u32 0), (.int .u32 0), v31, v32, v33] 71)) a26) = (some v27)) ∧ (appH Try.prog #[54, 54] 54 #[(.slice o28 k29 k30), (.slice (some ⟨h25.size, 0, none⟩) 1 1)] (Array.push h25 (.cells #[(.int .i64 x1), (.bool true), (.int .i64 0), (.int .u32 0), (.int .u32 0), v31, v32, v33] 71)) (fun v34 h35 => (asSlice v34 (fun o36 k37 k38 => (nilC (.pointer x0) (asPtr (.pointer x0) (fun a39 => (stH h35 a39 (.slice o36 k37 k38) (fun h40 => (K (.int .i64 0) h40))))))))))))))))))))))))))))))))))))))))))))))))))))))))))))))))))))))))))))
theorem vc94 (K : Value → Heap → Prop) (h : Heap) (x0 : Option Addr) (x1 : Int) (x2_0 : Int) (x2_1 : Int) (x2_2 : Int) : vc Try.prog (bodyOf Try.f94) (retQ Try.prog Try.f94.results.toList (hasRange (bodyOf Try.f94)) h.size K) (envL [(.pointer x0), (.int .i64 x1), (.agg #[(.int .i64 x2_0), (.int .u32 x2_1), (.int .u32 x2_2)])]) h = F94 K h x0 x1 x2_0 x2_1 x2_2 := by kernel_rfl
theorem ok94 : fnOk Try.prog Try.f94 3 = true := by kernel_rfl
theorem call94 {K : Value → Heap → Prop} {h : Heap} {x0 : Option Addr} {x1 : Int} {x2_0 : Int} {x2_1 : Int} {x2_2 : Int} (H : F94 K h x0 x1 x2_0 x2_1 x2_2) : CallH Try.prog 94 #[(.pointer x0), (.int .i64 x1), (.agg #[(.int .i64 x2_0), (.int .u32 x2_1), (.int .u32 x2_2)])] h K :=
  callH_mk Try.func94 ok94 (Eq.mp (vc94 K h x0 x1 x2_0 x2_1 x2_2).symm H)

/-- (*jostle/hist.Hist).Invoke -/
def F95 (K : Value → Heap → Prop) (h : Heap) (x0 : Option Addr) (x1 : Int) (x2_0 : Int) (x2_1 : Int) (x2_2 : Int) : Prop :=
  (ifB (Option.isNone x0) (K (.int .i64 1) (Array.push h (.cells #[(.int .i64 x2_0), (.int .u32 x2_1), (.int .u32 x2_2)] 40))) (callV Try.prog (.func (.func 113) #[] #[]) #[(.int .i64 x1)] (Array.push h (.cells #[(.int .i64 x2_0), (.int .u32 x2_1), (.int .u32 x2_2)] 40)) (fun v0 h1 => (asBool v0 (fun b2 => (ifB (!b2) (K (.int .i64 2) h1) (ldH h1 ⟨h.size, 0, none⟩ (fun v3 => (ldH h1 ⟨h.size, 1, none⟩ (fun v4 => (ldH h1 ⟨h.size, 2, none⟩ (fun v5 => (callV Try.prog (.func (.func 59) #[] #[]) #[(.agg #[v3, v4, v5])] h1 (fun v6 h7 => (asBool v6 (fun b8 => (ifB (!b8) (K (.int .i64 1) h7) (callV Try.prog (.func (.func 114) #[] #[]) #[(.pointer x0), (.int .i64 x1)] h7 (fun v9 h10 => (asBool v9 (fun b11 => (ifB b11 (K (.int .i64 5) h10) (exI (fun I12 => ((nilC (.pointer x0) (asPtr (.pointer x0) (fun a13 => (ldH h10 (Addr.add a13 1) (fun v14 => (asMap v14 (fun o15 => (ifB (Option.isNone o15) (nilC (.pointer x0) (asPtr (.pointer x0) (fun a16 => (stH (Array.push h10 (.map #[] 0)) (Addr.add a16 1) (.map (some h10.size)) (fun h17 => (I12 [] h17)))))) (I12 [] h10))))))))) ∧ (∀ g18 : Env, (∀ h19 : Heap, ((I12 [] h19) → (nilC (.pointer x0) (asPtr (.pointer x0) (fun a20 => (ldH h19 (Addr.add a20 1) (fun v21 => (asMap v21 (fun o22 => (ldH h19 ⟨h.size, 0, none⟩ (fun v23 => (ldH h19 ⟨h.size, 1, none⟩ (fun v24 => (ldH h19 ⟨h.size, 2, none⟩ (fun v25 => (mupdH Try.prog 127 (.map o22) (.int .i64 x1) (.agg #[v23, v24, v25]) h19 (fun h26 => (nilC (.pointer x0) (asPtr (.pointer x0) (fun a27 => (ldH h26 a27 (fun v28 => (asSlice v28 (fun o29 k30 k31 => (ldH h26 ⟨h.size, 0, none⟩ (fun v32 => (ldH h26 ⟨h.size, 1, none⟩ (fun v33 => (ldH h26 ⟨h.size, 2, none⟩ (fun v34 => (((cellAt (Array.push h26 (.cells #[(.int .i64 x1), (.bool false), v32, v33, v34, (.int .i64 0), (.int .u32 0), (.int .u32 0)] 71)) a27) = (some v28)) ∧ (appH Try.prog #[54, 54] 54 #[(.slice o29 k30 k31), (.slice (some ⟨h26.size, 0, none⟩) 1 1)] (Array.push h26 (.cells #[(.int .i64 x1), (.bool false), v32, v33, v34, (.int .i64 0), (.int .u32 0), (.int .u32 0)] 71)) (fun v35 h36 => (asSlice v35 (fun o37 k38 k39 => (nilC (.pointer x0) (asPtr (.pointer x0) (fun a40 => (stH h36 a40 (.slice o37 k38 k39) (fun h41 => (K (.int .i64 0) h41)))))))))))))))))))))))))))))))))))))))))))))))))))))))))))))))))))
theorem vc95 (K : Value → Heap → Prop) (h : Heap) (x0 : Option Addr) (x1 : Int) (x2_0 : Int) (x2_1 : Int) (x2_2 : Int) : vc Try.prog (bodyOf Try.f95) (retQ Try.prog Try.f95.results.toList (hasRange (bodyOf Try.f95)) h.size K) (envL [(.pointer x0), (.int .i64 x1), (.agg #[(.int .i64 x2_0), (.int .u32 x2_1), (.int .u32 x2_2)])]) h = F95 K h x0 x1 x2_0 x2_1 x2_2 := by kernel_rfl
theorem ok95 : fnOk Try.prog Try.f95 3 = true := by kernel_rfl
theorem call95 {K : Value → Heap → Prop} {h : Heap} {x0 : Option Addr} {x1 : Int} {x2_0 : Int} {x2_1 : Int} {x2_2 : Int} (H : F95 K h x0 x1 x2_0 x2_1 x2_2) : CallH Try.prog 95 #[(.pointer x0), (.int .i64 x1), (.agg #[(.int .i64 x2_0), (.int .u32 x2_1), (.int .u32 x2_2)])] h K :=
  callH_mk Try.func95 ok95 (Eq.mp (vc95 K h x0 x1 x2_0 x2_1 x2_2).symm H)

/-- jostle/hist.there -/
def F113 (K : Value → Heap → Prop) (h : Heap) (x0 : Int) : Prop :=
  (ifB (decide (x0 ≥ 0)) (K (.bool (decide (x0 < 6))) h) (K (.bool false) h))
theorem vc113 (K : Value → Heap → Prop) (h : Heap) (x0 : Int) : vc Try.prog (bodyOf Try.f113) (retQ Try.prog Try.f113.results.toList (hasRange (bodyOf Try.f113)) h.size K) (envL [(.int .i64 x0)]) h = F113 K h x0 := by kernel_rfl
theorem ok113 : fnOk Try.prog Try.f113 1 = true := by kernel_rfl
theorem call113 {K : Value → Heap → Prop} {h : Heap} {x0 : Int} (H : F113 K h x0) : CallH Try.prog 113 #[(.int .i64 x0)] h K :=
  callH_mk Try.func113 ok113 (Eq.mp (vc113 K h x0).symm H)

/-- (*jostle/hist.Hist).Busy -/
def F114 (K : Value → Heap → Prop) (h : Heap) (x0 : Option Addr) (x1 : Int) : Prop :=
  (ifB (Option.isNone x0) (K (.bool false) h) (nilC (.pointer x0) (asPtr (.pointer x0) (fun a0 => (ldH h (Addr.add a0 1) (fun v1 => (asMap v1 (fun o2 => (lookH Try.prog 127 (.map o2) (.int .i64 x1) true h (fun v3 h4 => (asTup v3 (fun vs5 => (elemH vs5 0 (fun v6 => (asAgg v6 (fun vs7 => (sizeH vs7 3 (elemH vs7 0 (fun v8 => (elemH vs7 1 (fun v9 => (elemH vs7 2 (fun v10 => (asTup v3 (fun vs11 => (elemH vs11 1 (fun v12 => (asBool v12 (fun b13 => (stH (Array.push h4 (.cells #[(.int .i64 0), (.int .u32 0), (.int .u32 0)] 40)) ⟨h4.size, 0, none⟩ v8 (fun h14 => (stH h14 ⟨h4.size, 1, none⟩ v9 (fun h15 => (stH h15 ⟨h4.size, 2, none⟩ v10 (fun h16 => (K (.bool b13) h16))))))))))))))))))))))))))))))))))))
theorem vc114 (K : Value → Heap → Prop) (h : Heap) (x0 : Option Addr) (x1 : Int) : vc Try.prog (bodyOf Try.f114) (retQ Try.prog Try.f114.results.toList (hasRange (bodyOf Try.f114)) h.size K) (envL [(.pointer x0), (.int .i64 x1)]) h = F114 K h x0 x1 := by kernel_rfl
theorem ok114 : fnOk Try.prog Try.f114 2 = true := by kernel_rfl
theorem call114 {K : Value → Heap → Prop} {h : Heap} {x0 : Option Addr} {x1 : Int} (H : F114 K h x0 x1) : CallH Try.prog 114 #[(.pointer x0), (.int .i64 x1)] h K :=
  callH_mk Try.func114 ok114 (Eq.mp (vc114 K h x0 x1).symm H)

/-- jostle/call.Fits -/
def F43 (K : Value → Heap → Prop) (h : Heap) (x0_0 : Int) (x0_1 : Int) (x0_2 : Int) (x1_0 : Int) (x1_1 : Int) (x1_2 : Int) : Prop :=
  (exI (fun I0 => ((ldH (Array.push (Array.push h (.cells #[(.int .i64 x0_0), (.int .u32 x0_1), (.int .u32 x0_2)] 40)) (.cells #[(.int .i64 x1_0), (.int .u32 x1_1), (.int .u32 x1_2)] 42)) ⟨h.size, 0, none⟩ (fun v1 => (ldH (Array.push (Array.push h (.cells #[(.int .i64 x0_0), (.int .u32 x0_1), (.int .u32 x0_2)] 40)) (.cells #[(.int .i64 x1_0), (.int .u32 x1_1), (.int .u32 x1_2)] 42)) ⟨h.size, 1, none⟩ (fun v2 => (ldH (Array.push (Array.push h (.cells #[(.int .i64 x0_0), (.int .u32 x0_1), (.int .u32 x0_2)] 40)) (.cells #[(.int .i64 x1_0), (.int .u32 x1_1), (.int .u32 x1_2)] 42)) ⟨h.size, 2, none⟩ (fun v3 => (callV Try.prog (.func (.func 59) #[] #[]) #[(.agg #[v1, v2, v3])] (Array.push (Array.push h (.cells #[(.int .i64 x0_0), (.int .u32 x0_1), (.int .u32 x0_2)] 40)) (.cells #[(.int .i64 x1_0), (.int .u32 x1_1), (.int .u32 x1_2)] 42)) (fun v4 h5 => (asBool v4 (fun b6 => (ifB (!b6) (I0 [(.bool true)] h5) (ldH h5 ⟨(Array.push h (.cells #[(.int .i64 x0_0), (.int .u32 x0_1), (.int .u32 x0_2)] 40)).size, 0, none⟩ (fun v7 => (ldH h5 ⟨(Array.push h (.cells #[(.int .i64 x0_0), (.int .u32 x0_1), (.int .u32 x0_2)] 40)).size, 1, none⟩ (fun v8 => (ldH h5 ⟨(Array.push h (.cells #[(.int .i64 x0_0), (.int .u32 x0_1), (.int .u32 x0_2)] 40)).size, 2, none⟩ (fun v9 => (callV Try.prog (.func (.func 60) #[] #[]) #[(.agg #[v7, v8, v9])] h5 (fun v10 h11 => (asBool v10 (fun b12 => (I0 [(.bool (!b12))] h11)))))))))))))))))))))) ∧ (∀ v13 : Value, (∀ g14 : Env, (∀ h15 : Heap, ((I0 [v13] h15) → (asBool v13 (fun b16 => (ifB b16 (K (.bool false) h15) (ldH h15 ⟨h.size, 0, none⟩ (fun v17 => (asInt .i64 v17 (fun n18 => (ldH h15 ⟨(Array.push h (.cells #[(.int .i64 x0_0), (.int .u32 x0_1), (.int .u32 x0_2)] 40)).size, 0, none⟩ (fun v19 => (asInt .i64 v19 (fun n20 => (ifB (n20 == 0) (K (.bool ((n18 == 0) == true)) h15) (ldH h15 ⟨(Array.push h (.cells #[(.int .i64 x0_0), (.int .u32 x0_1), (.int .u32 x0_2)] 40)).size, 0, none⟩ (fun v21 => (asInt .i64 v21 (fun n22 => (K (.bool ((n18 == 0) == (n22 == 1))) h15))))))))))))))))))))))))
theorem vc43 (K : Value → Heap → Prop) (h : Heap) (x0_0 : Int) (x0_1 : Int) (x0_2 : Int) (x1_0 : Int) (x1_1 : Int) (x1_2 : Int) : vc Try.prog (bodyOf Try.f43) (retQ Try.prog Try.f43.results.toList (hasRange (bodyOf Try.f43)) h.size K) (envL [(.agg #[(.int .i64 x0_0), (.int .u32 x0_1), (.int .u32 x0_2)]), (.agg #[(.int .i64 x1_0), (.int .u32 x1_1), (.int .u32 x1_2)])]) h = F43 K h x0_0 x0_1 x0_2 x1_0 x1_1 x1_2 := by kernel_rfl
theorem ok43 : fnOk Try.prog Try.f43 2 = true := by kernel_rfl
theorem call43 {K : Value → Heap → Prop} {h : Heap} {x0_0 : Int} {x0_1 : Int} {x0_2 : Int} {x1_0 : Int} {x1_1 : Int} {x1_2 : Int} (H : F43 K h x0_0 x0_1 x0_2 x1_0 x1_1 x1_2) : CallH Try.prog 43 #[(.agg #[(.int .i64 x0_0), (.int .u32 x0_1), (.int .u32 x0_2)]), (.agg #[(.int .i64 x1_0), (.int .u32 x1_1), (.int .u32 x1_2)])] h K :=
  callH_mk Try.func43 ok43 (Eq.mp (vc43 K h x0_0 x0_1 x0_2 x1_0 x1_1 x1_2).symm H)

/-- jostle/call.Right -/
def F59 (K : Value → Heap → Prop) (h : Heap) (x0_0 : Int) (x0_1 : Int) (x0_2 : Int) : Prop :=
  (ldH (Array.push h (.cells #[(.int .i64 x0_0), (.int .u32 x0_1), (.int .u32 x0_2)] 40)) ⟨h.size, 0, none⟩ (fun v0 => (asInt .i64 v0 (fun n1 => (ifB (n1 == 0) (K (.bool true) (Array.push h (.cells #[(.int .i64 x0_0), (.int .u32 x0_1), (.int .u32 x0_2)] 40))) (exI (fun I2 => ((ifB (n1 == 1) (I2 [(.bool true)] (Array.push h (.cells #[(.int .i64 x0_0), (.int .u32 x0_1), (.int .u32 x0_2)] 40))) (I2 [(.bool (n1 == 2))] (Array.push h (.cells #[(.int .i64 x0_0), (.int .u32 x0_1), (.int .u32 x0_2)] 40)))) ∧ (∀ v3 : Value, (∀ g4 : Env, (∀ h5 : Heap, ((I2 [v3] h5) → (asBool v3 (fun b6 => (ifB b6 (ldH h5 ⟨h.size, 1, none⟩ (fun v7 => (asInt .u32 v7 (fun n8 => (ifB (n8 == 0) (ldH h5 ⟨h.size, 2, none⟩ (fun v9 => (asInt .u32 v9 (fun n10 => (K (.bool (n10 == 0)) h5))))) (K (.bool false) h5)))))) (K (.bool false) h5))))))))))))))))
theorem vc59 (K : Value → Heap → Prop) (h : Heap) (x0_0 : Int) (x0_1 : Int) (x0_2 : Int) : vc Try.prog (bodyOf Try.f59) (retQ Try.prog Try.f59.results.toList (hasRange (bodyOf Try.f59)) h.size K) (envL [(.agg #[(.int .i64 x0_0), (.int .u32 x0_1), (.int .u32 x0_2)])]) h = F59 K h x0_0 x0_1 x0_2 := by kernel_rfl
theorem ok59 : fnOk Try.prog Try.f59 1 = true := by kernel_rfl
theorem call59 {K : Value → Heap → Prop} {h : Heap} {x0_0 : Int} {x0_1 : Int} {x0_2 : Int} (H : F59 K h x0_0 x0_1 x0_2) : CallH Try.prog 59 #[(.agg #[(.int .i64 x0_0), (.int .u32 x0_1), (.int .u32 x0_2)])] h K :=
  callH_mk Try.func59 ok59 (Eq.mp (vc59 K h x0_0 x0_1 x0_2).symm H)

end Go.Proofs.Ytlncjcbofgjcfaa
end
section
/- Calls and answers: which may be, which fit. -/
set_option linter.unusedSimpArgs false
set_option linter.unusedVariables false
set_option maxRecDepth 20000
namespace Go.Proofs.Ytlncjcbofgjcfaa

/-- A call, or an answer. -/
structure C3 where
  o : Int
  k : Int
  v : Int
abbrev C3.cells (c : C3) : List Value := [.int .i64 c.o, .int .u32 c.k, .int .u32 c.v]
def zeroC : C3 := ⟨0, 0, 0⟩
def C3.is0 (c : C3) : Bool := c.o == 0 && (c.k == 0 && c.v == 0)
def rightC (c : C3) : Bool := c.o == 0 || ((c.o == 1 || c.o == 2) && (c.k == 0 && c.v == 0))
def rightA (a : C3) : Bool := a.o == 2 || ((a.o == 0 || (a.o == 1 || a.o == 3)) && (a.k == 0 && a.v == 0))
def fitsB (c a : C3) : Bool := rightC c && (rightA a && ((c.o == 0) == (a.o == 0 || a.o == 1)))

theorem callRight_call {K : Value → Heap → Prop} {h : Heap} {c : C3} (k : ∀ h', Old h.size h h' → K (.bool (rightC c)) h') : CallH Try.prog 59 #[.agg c.cells.toArray] h K := by
  refine call59 ?_
  unfold F59
  have p := pushed h c.cells.toArray 40
  rw [show h.push (.cells #[.int .i64 c.o, .int .u32 c.k, .int .u32 c.v] 40) = h.push (.cells c.cells.toArray 40) from rfl]
  generalize h.push (.cells c.cells.toArray 40) = h1 at *
  have kk := k _ p.toOld
  unfold rightC at kk
  refine ldR p.new rfl ?_
  simp only [asInt_int]
  refine ifB_mk (fun e => by rw [e] at kk; exact kk) (fun e => ?_)
  rw [e, Bool.false_or] at kk
  refine ⟨fun vs h' => vs = [.bool (c.o == 1 || c.o == 2)] ∧ h' = h1, ?_, ?_⟩
  · refine ifB_mk (fun e1 => ⟨by rw [e1]; rfl, rfl⟩) (fun e1 => ⟨by rw [e1, Bool.false_or], rfl⟩)
  rintro v3 g4 h5 ⟨e3, rfl⟩
  cases e3
  simp only [asBool_bool]
  refine ifB_mk (fun e1 => ?_) (fun e1 => by rw [e1] at kk; exact kk)
  rw [e1, Bool.true_and] at kk
  refine ldR p.new rfl ?_
  simp only [asInt_int]
  refine ifB_mk (fun e2 => ?_) (fun e2 => by rw [e2] at kk; exact kk)
  rw [e2, Bool.true_and] at kk
  refine ldR p.new rfl ?_
  simp only [asInt_int]
  exact kk
theorem refRight_call {K : Value → Heap → Prop} {h : Heap} {c : C3} (k : ∀ h', Old h.size h h' → K (.bool (rightC c)) h') : CallH Try.prog 48 #[.agg c.cells.toArray] h K := by
  refine call48 ?_
  unfold F48
  have p := pushed h c.cells.toArray 40
  rw [show h.push (.cells #[.int .i64 c.o, .int .u32 c.k, .int .u32 c.v] 40) = h.push (.cells c.cells.toArray 40) from rfl]
  generalize h.push (.cells c.cells.toArray 40) = h1 at *
  have kk := k _ p.toOld
  unfold rightC at kk
  refine ldR p.new rfl ?_
  simp only [asInt_int]
  refine ifB_mk (fun e => by rw [e] at kk; exact kk) (fun e => ?_)
  rw [e, Bool.false_or] at kk
  refine ldR p.new rfl ?_
  simp only [asInt_int]
  refine ifB_mk (fun e1 => ?_) (fun e1 => ?_)
  · rw [e1, Bool.true_or, Bool.true_and] at kk
    refine ldR p.new rfl ?_
    simp only [asInt_int]
    refine ifB_mk (fun e2 => ?_) (fun e2 => by rw [e2] at kk; exact kk)
    rw [e2, Bool.true_and] at kk
    refine ldR p.new rfl ?_
    simp only [asInt_int]
    exact kk
  · rw [e1, Bool.false_or] at kk
    refine ldR p.new rfl ?_
    simp only [asInt_int]
    refine ifB_mk (fun e1 => ?_) (fun e1 => by rw [e1] at kk; exact kk)
    rw [e1, Bool.true_and] at kk
    refine ldR p.new rfl ?_
    simp only [asInt_int]
    refine ifB_mk (fun e2 => ?_) (fun e2 => by rw [e2] at kk; exact kk)
    rw [e2, Bool.true_and] at kk
    refine ldR p.new rfl ?_
    simp only [asInt_int]
    exact kk
theorem ansRight_call {K : Value → Heap → Prop} {h : Heap} {c : C3} (k : ∀ h', Old h.size h h' → K (.bool (rightA c)) h') : CallH Try.prog 60 #[.agg c.cells.toArray] h K := by
  refine call60 ?_
  unfold F60
  have p := pushed h c.cells.toArray 42
  rw [show h.push (.cells #[.int .i64 c.o, .int .u32 c.k, .int .u32 c.v] 42) = h.push (.cells c.cells.toArray 42) from rfl]
  generalize h.push (.cells c.cells.toArray 42) = h1 at *
  have kk := k _ p.toOld
  unfold rightA at kk
  refine ldR p.new rfl ?_
  simp only [asInt_int]
  refine ifB_mk (fun e => by rw [e] at kk; exact kk) (fun e => ?_)
  rw [e, Bool.false_or] at kk
  refine ⟨fun vs h' => vs = [.bool (c.o == 0 || (c.o == 1 || c.o == 3))] ∧ h' = h1, ?_, ?_⟩
  · refine ifB_mk (fun e1 => ⟨by rw [e1]; rfl, rfl⟩) (fun e1 => ?_)
    refine ifB_mk (fun e2 => ⟨by rw [e1, e2]; rfl, rfl⟩) (fun e2 => ⟨by rw [e1, e2, Bool.false_or, Bool.false_or], rfl⟩)
  rintro v3 g4 h5 ⟨e3, rfl⟩
  cases e3
  simp only [asBool_bool]
  refine ifB_mk (fun e1 => ?_) (fun e1 => by rw [e1] at kk; exact kk)
  rw [e1, Bool.true_and] at kk
  refine ldR p.new rfl ?_
  simp only [asInt_int]
  refine ifB_mk (fun e2 => ?_) (fun e2 => by rw [e2] at kk; exact kk)
  rw [e2, Bool.true_and] at kk
  refine ldR p.new rfl ?_
  simp only [asInt_int]
  exact kk
theorem refMay_call {K : Value → Heap → Prop} {h : Heap} {c : C3} (k : ∀ h', Old h.size h h' → K (.bool (rightA c)) h') : CallH Try.prog 49 #[.agg c.cells.toArray] h K := by
  refine call49 ?_
  unfold F49
  have p := pushed h c.cells.toArray 42
  rw [show h.push (.cells #[.int .i64 c.o, .int .u32 c.k, .int .u32 c.v] 42) = h.push (.cells c.cells.toArray 42) from rfl]
  generalize h.push (.cells c.cells.toArray 42) = h1 at *
  have kk := k _ p.toOld
  unfold rightA at kk
  refine ldR p.new rfl ?_
  simp only [asInt_int]
  refine ifB_mk (fun e => by rw [e] at kk; exact kk) (fun e => ?_)
  rw [e, Bool.false_or] at kk
  refine ldR p.new rfl ?_
  simp only [asInt_int]
  refine ifB_mk (fun e1 => ?_) (fun e1 => ?_)
  · rw [e1, Bool.true_or, Bool.true_and] at kk
    refine ldR p.new rfl ?_
    simp only [asInt_int]
    refine ifB_mk (fun e2 => ?_) (fun e2 => by rw [e2] at kk; exact kk)
    rw [e2, Bool.true_and] at kk
    refine ldR p.new rfl ?_
    simp only [asInt_int]
    exact kk
  · rw [e1, Bool.false_or] at kk
    refine ldR p.new rfl ?_
    simp only [asInt_int]
    refine ifB_mk (fun e1 => ?_) (fun e1 => ?_)
    · rw [e1, Bool.true_or, Bool.true_and] at kk
      refine ldR p.new rfl ?_
      simp only [asInt_int]
      refine ifB_mk (fun e2 => ?_) (fun e2 => by rw [e2] at kk; exact kk)
      rw [e2, Bool.true_and] at kk
      refine ldR p.new rfl ?_
      simp only [asInt_int]
      exact kk
    · rw [e1, Bool.false_or] at kk
      refine ldR p.new rfl ?_
      simp only [asInt_int]
      refine ifB_mk (fun e1 => ?_) (fun e1 => by rw [e1] at kk; exact kk)
      rw [e1, Bool.true_and] at kk
      refine ldR p.new rfl ?_
      simp only [asInt_int]
      refine ifB_mk (fun e2 => ?_) (fun e2 => by rw [e2] at kk; exact kk)
      rw [e2, Bool.true_and] at kk
      refine ldR p.new rfl ?_
      simp only [asInt_int]
      exact kk

theorem fits_call {K : Value → Heap → Prop} {h : Heap} {c a : C3} (k : ∀ h', Old h.size h h' → K (.bool (fitsB c a)) h') : CallH Try.prog 43 #[.agg c.cells.toArray, .agg a.cells.toArray] h K := by
  refine call43 ?_
  unfold F43
  have p := pushed h c.cells.toArray 40
  rw [show h.push (.cells #[.int .i64 c.o, .int .u32 c.k, .int .u32 c.v] 40) = h.push (.cells c.cells.toArray 40) from rfl]
  generalize h.push (.cells c.cells.toArray 40) = h1 at *
  have s1 := p.size
  have p2 := pushed h1 a.cells.toArray 42
  rw [show h1.push (.cells #[.int .i64 a.o, .int .u32 a.k, .int .u32 a.v] 42) = h1.push (.cells a.cells.toArray 42) from rfl]
  generalize h1.push (.cells a.cells.toArray 42) = h2 at *
  have e2 : h2[h.size]? = some (.cells c.cells.toArray 40) := (p2.old _ (by omega)).trans p.new
  have o2 := p.toOld.trans (p2.toOld.mono (by omega))
  have s2 := p2.size
  refine ⟨fun vs h' => vs = [.bool (!(rightC c && rightA a))] ∧ Old h2.size h2 h', ?_, ?_⟩
  · refine ldR e2 rfl (ldR e2 rfl (ldR e2 rfl ?_))
    refine callV_fn (callRight_call (c := c) fun h5 o5 => ?_)
    simp only [asBool_bool]
    refine ifB_mk (fun e => ⟨by simp at e; rw [e]; rfl, o5⟩) (fun e => ?_)
    have e5 := (o5.2 _ (by omega)).trans p2.new
    refine ldR e5 rfl (ldR e5 rfl (ldR e5 rfl ?_))
    refine callV_fn (ansRight_call (c := a) fun h11 o11 => ?_)
    simp only [asBool_bool]
    refine ⟨?_, o5.trans (o11.mono o5.1)⟩
    have : rightC c = true := by simpa using e
    rw [this, Bool.true_and]
  rintro v13 g14 h15 ⟨e, o15⟩
  cases e
  simp only [asBool_bool]
  have kk := k _ (o2.trans (o15.mono o2.1))
  unfold fitsB at kk
  refine ifB_mk (fun e => ?_) (fun e => ?_)
  · have : (rightC c && rightA a) = false := by revert e; cases (rightC c && rightA a) <;> intro e <;> first | rfl | cases e
    rw [← Bool.and_assoc, this] at kk
    exact kk
  · have : (rightC c && rightA a) = true := by revert e; cases (rightC c && rightA a) <;> intro e <;> first | rfl | cases e
    rw [← Bool.and_assoc, this, Bool.true_and] at kk
    have c15 := (o15.2 _ (by omega)).trans e2
    have a15 := (o15.2 _ (by omega)).trans p2.new
    refine ldR c15 rfl ?_
    simp only [asInt_int]
    refine ldR a15 rfl ?_
    simp only [asInt_int]
    refine ifB_mk (fun e1 => by rw [e1, Bool.true_or] at kk; exact kk) (fun e1 => ?_)
    rw [e1, Bool.false_or] at kk
    refine ldR a15 rfl ?_
    simp only [asInt_int]
    exact kk
theorem refFits_call {K : Value → Heap → Prop} {h : Heap} {c a : C3} (k : ∀ h', Old h.size h h' → K (.bool (fitsB c a)) h') : CallH Try.prog 29 #[.agg c.cells.toArray, .agg a.cells.toArray] h K := by
  refine call29 ?_
  unfold F29
  have p := pushed h c.cells.toArray 40
  rw [show h.push (.cells #[.int .i64 c.o, .int .u32 c.k, .int .u32 c.v] 40) = h.push (.cells c.cells.toArray 40) from rfl]
  generalize h.push (.cells c.cells.toArray 40) = h1 at *
  have s1 := p.size
  have p2 := pushed h1 a.cells.toArray 42
  rw [show h1.push (.cells #[.int .i64 a.o, .int .u32 a.k, .int .u32 a.v] 42) = h1.push (.cells a.cells.toArray 42) from rfl]
  generalize h1.push (.cells a.cells.toArray 42) = h2 at *
  have e2 : h2[h.size]? = some (.cells c.cells.toArray 40) := (p2.old _ (by omega)).trans p.new
  have o2 := p.toOld.trans (p2.toOld.mono (by omega))
  have s2 := p2.size
  refine ldR e2 rfl (ldR e2 rfl (ldR e2 rfl ?_))
  refine callV_fn (refRight_call (c := c) fun h5 o5 => ?_)
  simp only [asBool_bool]
  have ok5 := o2.trans (o5.mono o2.1)
  refine ifB_mk (fun e => ?_) (fun e => by have kk := k _ ok5; unfold fitsB at kk; rw [e] at kk; exact kk)
  have e5 := (o5.2 _ (by omega)).trans p2.new
  refine ldR e5 rfl (ldR e5 rfl (ldR e5 rfl ?_))
  refine callV_fn (refMay_call (c := a) fun h10 o10 => ?_)
  simp only [asBool_bool]
  have ok10 := ok5.trans (o10.mono ok5.1)
  have kk := k _ ok10
  unfold fitsB at kk
  rw [e, Bool.true_and] at kk
  refine ifB_mk (fun e1 => ?_) (fun e1 => by rw [e1] at kk; exact kk)
  have hA := e1
  rw [e1, Bool.true_and] at kk
  have c15 := (o10.2 _ (by have := o5.1; omega)).trans ((o5.2 _ (by omega)).trans e2)
  have a15 := (o10.2 _ (by have := o5.1; omega)).trans e5
  refine ldR c15 rfl ?_
  simp only [asInt_int]
  refine ldR a15 rfl ?_
  simp only [asInt_int]
  have : decide (a.o < 2) = (a.o == 0 || a.o == 1) := by
    unfold rightA at hA
    simp only [Bool.or_eq_true, Bool.and_eq_true, beq_iff_eq] at hA
    rcases hA with h2 | ⟨h0 | h1 | h3, _⟩
    · rw [h2]; rfl
    · rw [h0]; rfl
    · rw [h1]; rfl
    · rw [h3]; rfl
  rw [this]
  exact kk
theorem eqv_c3 (t : TypeId) (ht : t = 40 ∨ t = 42) (a0 a1 a2 : Int) : eqv Try.prog 10000 t (.agg #[.int .i64 a0, .int .u32 a1, .int .u32 a2]) (.agg #[.int .i64 0, .int .u32 0, .int .u32 0]) = some ((a0 == 0) && ((a1 == 0) && ((a2 == 0) && true))) := by
  rcases ht with rfl | rfl <;> kernel_rfl
theorem guard_c3 (t : TypeId) (ht : t = 40 ∨ t = 42) : Try.prog.eqGuardType Try.prog.depth t = false := by
  rcases ht with rfl | rfl <;> kernel_rfl
theorem eqvH_c3 {t : TypeId} (ht : t = 40 ∨ t = 42) {c : C3} {K : Bool → Prop} (k : K c.is0) : eqvH Try.prog t (.agg c.cells.toArray) (.agg #[.int .i64 0, .int .u32 0, .int .u32 0]) K := by
  unfold eqvH
  rw [guard_c3 t ht, if_neg (by simp)]
  show (match eqv Try.prog 10000 t (.agg c.cells.toArray) (.agg #[.int .i64 0, .int .u32 0, .int .u32 0]) with | some b => K b | none => False)
  rw [eqv_c3 t ht]
  unfold C3.is0 at k
  simpa using k
end Go.Proofs.Ytlncjcbofgjcfaa
end
section
/- A bag: its contracts. -/
set_option linter.unusedSimpArgs false
set_option linter.unusedVariables false
set_option maxRecDepth 20000
namespace Go.Proofs.Ytlncjcbofgjcfaa

theorem eqv_pr (t : TypeId) (ht : t = 29 ∨ t = 36) (a b c d : Int) : eqv Try.prog 10000 t (.agg #[.int .u32 a, .int .u32 b]) (.agg #[.int .u32 c, .int .u32 d]) = some ((a == c) && ((b == d) && true)) := by
  rcases ht with rfl | rfl <;> kernel_rfl
theorem guard_pr (t : TypeId) (ht : t = 29 ∨ t = 36) : Try.prog.eqGuardType Try.prog.depth t = false := by
  rcases ht with rfl | rfl <;> kernel_rfl
theorem eqvH_pr {t : TypeId} (ht : t = 29 ∨ t = 36) {p q : Pr} {K : Bool → Prop} (k : K (decide (p = q))) : eqvH Try.prog t (.agg #[.int .u32 p.1, .int .u32 p.2]) (.agg #[.int .u32 q.1, .int .u32 q.2]) K := by
  unfold eqvH
  rw [guard_pr t ht, if_neg (by simp)]
  show (match eqv Try.prog 10000 t (.agg #[.int .u32 p.1, .int .u32 p.2]) (.agg #[.int .u32 q.1, .int .u32 q.2]) with | some b => K b | none => False)
  rw [eqv_pr t ht]
  have e : ((p.1 == q.1) && ((p.2 == q.2) && true)) = decide (p = q) := by
    obtain ⟨a, b⟩ := p; obtain ⟨c, d⟩ := q
    simp only [Prod.mk.injEq, Bool.and_true]
    by_cases h1 : a = c <;> by_cases h2 : b = d <;> simp [h1, h2]
  rw [← e] at k
  exact k

/-! ### looked for -/
def idxI (P : Pr → Bool) (ps : List Pr) : Int := match ps.findIdx? P with | some i => (i : Int) | none => -1
theorem findIdx_at {P : Pr → Bool} {ps : List Pr} {i : Nat} (hi : i < ps.length) (h0 : ∀ q (hq : q < ps.length), q < i → P ps[q] = false) (h1 : P ps[i] = true) : ps.findIdx? P = some i := by
  rw [List.findIdx?_eq_some_iff_getElem]
  exact ⟨hi, h1, fun j hj => by rw [h0 j (by omega) hj]; simp⟩
theorem findIdx_no {P : Pr → Bool} {ps : List Pr} (h0 : ∀ q (hq : q < ps.length), P ps[q] = false) : ps.findIdx? P = none := by
  rw [List.findIdx?_eq_none_iff]
  intro x hx
  obtain ⟨q, hq, rfl⟩ := List.getElem_of_mem hx
  exact h0 q hq
theorem indexFunc_call {K : Value → Heap → Prop} {h : Heap} {a : Option Addr} {l c : Nat} {ps : List Pr} {g : Value} {P : Pr → Bool} (H : SPr h a l c ps) (hl : l < 2 ^ 60)
    (hg : ∀ p h', Old h.size h h' → callV Try.prog g #[.agg #[.int .u32 p.1, .int .u32 p.2]] h' fun v h'' => v = .bool (P p) ∧ Old h'.size h' h'')
    (k : ∀ h', Old h.size h h' → K (iv (idxI P ps)) h') : CallH Try.prog 38 #[.slice a l c, g] h K := by
  refine call38 ?_
  unfold F38
  have hlen := H.len
  refine ⟨fun vs h' => ∃ w0 w1, ∃ i : Nat, vs = [w0, w1, iv i] ∧ i ≤ l ∧ Old h.size h h' ∧ ∀ q (hq : q < ps.length), q < i → P ps[q] = false, fun vs _ => (match vs with | [_, _, .int _ n] => l - n.toNat | _ => 0), ⟨_, _, 0, rfl, Nat.zero_le _, Old.refl _ _, fun q _ h => by omega⟩, ?_⟩
  rintro v2 v3 v4 g5 h6 ⟨w0, w1, i, e, hi, o6, hall⟩
  cases e
  simp only [asInt_int, asI_int]
  refine ifB_dec (fun hlt => ?_) (fun hge => ?_)
  · have hi' : i < ps.length := by omega
    obtain ⟨ad, rfl, hc0, hc1⟩ := spr_at (H.old o6) hi'
    refine ⟨by omega, hlt, ?_⟩
    simp only [asPtr_some, Int.toNat_natCast]
    refine ldH_mk hc0 (ldH_mk hc1 ?_)
    refine callV_mono (fun v h13 x => ?_) (hg ps[i] h6 o6)
    obtain ⟨rfl, o13⟩ := x
    have ok13 := o6.trans (o13.mono o6.1)
    simp only [asBool_bool]
    refine ifB_mk (fun hb => ?_) (fun hb => ?_)
    · have := k h13 ok13
      unfold idxI at this
      rw [findIdx_at hi' hall hb] at this
      exact this
    · rw [nat_wrap1 (by omega)]
      refine ⟨⟨_, _, i + 1, rfl, by omega, ok13, fun q hq hqi => ?_⟩, by show l - ((i + 1 : Nat) : Int).toNat < l - (i : Int).toNat; omega⟩
      by_cases e : q = i
      · subst e; exact hb
      · exact hall q hq (by omega)
  · have := k h6 o6
    unfold idxI at this
    rw [findIdx_no (fun q hq => hall q hq (by omega))] at this
    exact this
theorem index_call {K : Value → Heap → Prop} {h : Heap} {a : Option Addr} {l c : Nat} {ps : List Pr} {p : Pr} (H : SPr h a l c ps) (hl : l < 2 ^ 60) (k : ∀ h', Old h.size h h' → K (iv (idxI (fun q => decide (p = q)) ps)) h') :
    CallH Try.prog 61 #[.slice a l c, .agg #[.int .u32 p.1, .int .u32 p.2]] h K := by
  refine call61 ?_
  unfold F61
  have hlen := H.len
  have p1 := pushed h (prc p).toArray 29
  rw [show h.push (.cells #[.int .u32 p.1, .int .u32 p.2] 29) = h.push (.cells (prc p).toArray 29) from rfl]
  generalize h.push (.cells (prc p).toArray 29) = h1 at *
  have o1 := p1.toOld
  refine ⟨fun vs h' => ∃ w0 w1, ∃ i : Nat, vs = [w0, w1, iv i] ∧ i ≤ l ∧ h' = h1 ∧ ∀ q (hq : q < ps.length), q < i → decide (p = ps[q]) = false, fun vs _ => (match vs with | [_, _, .int _ n] => l - n.toNat | _ => 0), ⟨_, _, 0, rfl, Nat.zero_le _, rfl, fun q _ h => by omega⟩, ?_⟩
  rintro v2 v3 v4 g5 h6 ⟨w0, w1, i, e, hi, rfl, hall⟩
  cases e
  simp only [asInt_int, asI_int]
  refine ifB_dec (fun hlt => ?_) (fun hge => ?_)
  · have hi' : i < ps.length := by omega
    obtain ⟨ad, rfl, hc0, hc1⟩ := spr_at (H.old o1) hi'
    refine ldR p1.new rfl (ldR p1.new rfl ⟨by omega, hlt, ?_⟩)
    simp only [asPtr_some, Int.toNat_natCast]
    refine ldH_mk hc0 (ldH_mk hc1 ?_)
    refine eqvH_pr (.inl rfl) (p := p) (q := ps[i]) ?_
    refine ifB_mk (fun hb => ?_) (fun hb => ?_)
    · have := k _ o1
      unfold idxI at this
      rw [findIdx_at hi' hall hb] at this
      exact this
    · rw [nat_wrap1 (by omega)]
      refine ⟨⟨_, _, i + 1, rfl, by omega, by trivial, fun q hq hqi => ?_⟩, by show l - ((i + 1 : Nat) : Int).toNat < l - (i : Int).toNat; omega⟩
      by_cases e : q = i
      · subst e; exact hb
      · exact hall q hq (by omega)
  · have := k _ o1
    unfold idxI at this
    rw [findIdx_no (fun q hq => hall q hq (by omega))] at this
    exact this
theorem contains_call {K : Value → Heap → Prop} {h : Heap} {a : Option Addr} {l c : Nat} {ps : List Pr} {p : Pr} (H : SPr h a l c ps) (hl : l < 2 ^ 60) (k : ∀ h', Old h.size h h' → K (.bool (decide (p ∈ ps))) h') :
    CallH Try.prog 44 #[.slice a l c, .agg #[.int .u32 p.1, .int .u32 p.2]] h K := by
  refine call44 ?_
  unfold F44
  have p1 := pushed h (prc p).toArray 29
  rw [show h.push (.cells #[.int .u32 p.1, .int .u32 p.2] 29) = h.push (.cells (prc p).toArray 29) from rfl]
  generalize h.push (.cells (prc p).toArray 29) = h1 at *
  refine ldR p1.new rfl (ldR p1.new rfl ?_)
  refine callV_fn (index_call (p := p) (H.old p1.toOld) hl fun h3 o3 => ?_)
  simp only [asInt_int]
  have := k h3 (p1.toOld.trans (o3.mono p1.toOld.1))
  have e : decide (idxI (fun q => decide (p = q)) ps ≥ 0) = decide (p ∈ ps) := by
    unfold idxI
    cases hf : ps.findIdx? fun q => decide (p = q) with
    | none =>
      have := List.findIdx?_eq_none_iff.1 hf
      rw [decide_eq_false (show ¬ (-1 : Int) ≥ 0 by omega), decide_eq_false]
      intro hm
      have := this p hm
      simp at this
    | some i =>
      obtain ⟨hi, h1, _⟩ := List.findIdx?_eq_some_iff_getElem.1 hf
      have : p = ps[i] := by simpa using h1
      rw [decide_eq_true (show ((i : Nat) : Int) ≥ 0 by omega), decide_eq_true]
      rw [this]; exact List.getElem_mem _
  rw [e]; exact this

/-! ### the bag itself -/
/-- A bag at p, its row at a. -/
def BagF (h : Heap) (p : Nat) (a : Option Addr) (ps : List Pr) : Prop := ∃ c, h[p]? = some (.cells #[.slice a ps.length c] 25) ∧ OwnP h a ps.length c ps ∧ Srt ps
/-- What a bag's calls may change. -/
def bagS (p : Nat) (a : Option Addr) (b : Nat) : Prop := b = p ∨ blk a b
theorem BagF.lt {h : Heap} {p : Nat} {a : Option Addr} {ps : List Pr} (H : BagF h p a ps) : p < h.size := by
  obtain ⟨c, e, _⟩ := H; exact (Array.getElem?_eq_some_iff.1 e).1
theorem BagF.ne {h : Heap} {p : Nat} {a : Option Addr} {ps : List Pr} (H : BagF h p a ps) : ¬ blk a p := by
  obtain ⟨c, e, own, _⟩ := H
  rintro ⟨ad, ea, eb⟩
  rcases own.2.2 with ⟨e0, _⟩ | ⟨b, row, e1, hb, _⟩
  · rw [e0] at ea; cases ea
  · rw [e1] at ea; cases ea
    simp only at eb
    subst eb
    rw [hb] at e; cases e
theorem BagF.fr {S : Nat → Prop} {h h' : Heap} {p : Nat} {a : Option Addr} {ps : List Pr} (H : BagF h p a ps) (x : Fr S h h') (hp : ¬ S p) (ha : ∀ b, blk a b → ¬ S b) : BagF h' p a ps := by
  obtain ⟨c, e, own, hs⟩ := H
  exact ⟨c, (x.2 p (Array.getElem?_eq_some_iff.1 e).1 hp).trans e, own.fr x ha, hs⟩
theorem BagF.old {h h' : Heap} {p : Nat} {a : Option Addr} {ps : List Pr} (H : BagF h p a ps) (o : Old h.size h h') : BagF h' p a ps := H.fr (o.fr fun _ => False) (fun h => h) fun _ _ h => h
theorem BagF.lta {h : Heap} {p : Nat} {a : Option Addr} {ps : List Pr} (H : BagF h p a ps) {b : Nat} (hb : blk a b) : b < h.size := by
  obtain ⟨c, e, own, _⟩ := H; exact own.lt2 hb
theorem BagF.srt {h : Heap} {p : Nat} {a : Option Addr} {ps : List Pr} (H : BagF h p a ps) : Srt ps := by obtain ⟨c, e, own, hs⟩ := H; exact hs

theorem bagLen_call {K : Value → Heap → Prop} {h : Heap} {p : Nat} {a : Option Addr} {ps : List Pr} (H : BagF h p a ps) (k : K (iv (ps.length : Nat)) h) : CallH Try.prog 20 #[.pointer (some ⟨p, 0, none⟩)] h K := by
  refine call20 ?_
  unfold F20
  obtain ⟨c, e, own, hs⟩ := H
  simp only [Option.isNone_some, ifB_false, nilC, asPtr_some]
  refine ldR e rfl ?_
  simp only [asSlice_slice]
  exact k
def leastP (ps : List Pr) : Int := match ps with | [] => 0 | p :: _ => p.1
theorem bagLeast_call {K : Value → Heap → Prop} {h : Heap} {p : Nat} {a : Option Addr} {ps : List Pr} (H : BagF h p a ps) (k : K (.tuple #[.int .u32 (leastP ps), .bool (!ps.isEmpty)]) h) : CallH Try.prog 19 #[.pointer (some ⟨p, 0, none⟩)] h K := by
  refine call19 ?_
  unfold F19
  refine callV_fn (bagLen_call H ?_)
  obtain ⟨c, e, own, hs⟩ := H
  simp only [asInt_int]
  cases hps : ps with
  | nil =>
    rw [hps] at k
    simp only [List.length_nil]
    rw [show (((0 : Nat) : Int) == 0) = true from rfl]
    exact k
  | cons x r =>
    rw [← hps]
    have hl : 0 < ps.length := by rw [hps]; simp
    rw [show (((ps.length : Nat) : Int) == 0) = false from beq_eq_false_iff_ne.2 (by omega)]
    simp only [ifB_false, nilC, asPtr_some]
    refine ldR e rfl ?_
    simp only [asSlice_slice]
    refine ⟨by omega, by omega, ?_⟩
    obtain ⟨ad, ea, hc0, _⟩ := spr_at own.sx hl
    rw [ea]
    simp only [asPtr_some]
    rw [Nat.zero_mul, add_zero] at hc0
    refine ldH_mk hc0 ?_
    simp only [asInt_int]
    have e0 : ps[0] = x := by subst hps; rfl
    rw [e0]
    rw [hps] at k
    exact k
theorem bagList_call {K : Value → Heap → Prop} {h : Heap} {p : Nat} {a : Option Addr} {ps : List Pr} (H : BagF h p a ps) (hl : ps.length ≤ 2 ^ 40) (k : ∀ a' c' h', OwnP h' a' ps.length c' ps → (∀ b, blk a' b → h.size ≤ b) → Old h.size h h' → K (.slice a' ps.length c') h') :
    CallH Try.prog 21 #[.pointer (some ⟨p, 0, none⟩)] h K := by
  refine call21 ?_
  unfold F21
  obtain ⟨c, e, own, hs⟩ := H
  simp only [Option.isNone_some, ifB_false, nilC, asPtr_some]
  refine ldR e rfl ?_
  simp only [asSlice_slice]
  refine callV_fn (clone_call own.sx hl fun a' c' h' own' hb o => ?_)
  simp only [asSlice_slice]
  exact k a' c' h' own' hb o
theorem bagCopy_call {K : Value → Heap → Prop} {h : Heap} {p : Nat} {a : Option Addr} {ps : List Pr} (H : BagF h p a ps) (hl : ps.length ≤ 2 ^ 40) (k : ∀ p' a' h', BagF h' p' a' ps → h.size ≤ p' → (∀ b, blk a' b → h.size ≤ b) → Old h.size h h' → K (.pointer (some ⟨p', 0, none⟩)) h') :
    CallH Try.prog 87 #[.pointer (some ⟨p, 0, none⟩)] h K := by
  refine call87 ?_
  unfold F87
  obtain ⟨c, e, own, hs⟩ := H
  simp only [Option.isNone_some, ifB_false, nilC, asPtr_some]
  refine ldR e rfl ?_
  simp only [asSlice_slice]
  refine callV_fn (clone_call own.sx hl fun a' c' h' own' hb o => ?_)
  simp only [asSlice_slice]
  refine k h'.size a' _ ⟨c', push_new _ _, own'.keep fun ad e => push_old _ _ _ (own'.lt ad e), hs⟩ o.1 hb ⟨by simp; have := o.1; omega, fun b hb' => (push_old _ _ _ (Nat.lt_of_lt_of_le hb' o.1)).trans (o.2 b hb')⟩
theorem bagAdd_call {K : Value → Heap → Prop} {h : Heap} {p : Nat} {a : Option Addr} {ps : List Pr} {q : Pr} (H : BagF h p a ps) (hl : ps.length ≤ 2 ^ 40)
    (k : ∀ a' h', BagF h' p a' (insP q ps) → (∀ b, blk a' b → blk a b ∨ h.size ≤ b) → Fr (bagS p a) h h' → K (.tuple #[]) h') : CallH Try.prog 10 #[.pointer (some ⟨p, 0, none⟩), .agg #[.int .u32 q.1, .int .u32 q.2]] h K := by
  refine call10 ?_
  unfold F10
  have hlt := H.lt
  have hne := H.ne
  obtain ⟨c, e, own, hs⟩ := H
  simp only [Option.isNone_some, Bool.not_false, ifB_true, nilC, asPtr_some]
  have p1 := pushed h (prc q).toArray 29
  rw [show h.push (.cells #[.int .u32 q.1, .int .u32 q.2] 29) = h.push (.cells (prc q).toArray 29) from rfl]
  generalize h.push (.cells (prc q).toArray 29) = h1 at *
  have s1 := p1.size
  have o1 := p1.toOld
  refine ldR ((o1.2 _ hlt).trans e) rfl ?_
  simp only [asSlice_slice]
  refine ldR p1.new rfl (ldR p1.new rfl ?_)
  have sx1 := (own.sx).old o1
  refine callV_fn (bsearch_call (p := q) sx1 hs (by omega) fun i h8 hi l1 l2 o8 => ?_)
  simp only [asTup_tuple]
  refine elemH_mk rfl ?_
  simp only [asInt_int]
  refine elemH_mk rfl ?_
  simp only [asBool_bool]
  have ok8 : Old h.size h h8 := o1.trans (o8.mono o1.1)
  have e8 := (ok8.2 _ hlt).trans e
  refine ldR e8 rfl ?_
  simp only [asSlice_slice]
  have loc8 : h8[h.size]? = some (.cells (prc q).toArray 29) := (o8.2 _ (by omega)).trans p1.new
  refine ldR loc8 rfl (ldR loc8 rfl ?_)
  have p9 := pushed h8 (prc q).toArray 29
  rw [show h8.push (.cells #[.int .u32 q.1, .int .u32 q.2] 29) = h8.push (.cells (prc q).toArray 29) from rfl]
  generalize h8.push (.cells (prc q).toArray 29) = h9 at *
  have o9 := p9.toOld
  have ok9 : Old h.size h h9 := ok8.trans (o9.mono ok8.1)
  have s9 := p9.size
  refine ⟨cellR ((o9.2 _ (by have := ok8.1; omega)).trans e8) rfl, ?_⟩
  have own9 : OwnP h9 a ps.length c ps := own.keep fun ad ea => ok9.2 _ (own.lt ad ea)
  refine callV_fn (insert_call (p := q) own9 p9.new ?_ (by have := own.2.1; omega) hl fun a' c' h23 own23 hb23 fr23 => ?_)
  · rintro ⟨ad, ea, eb⟩
    have := own.lt ad ea
    have := ok8.1
    omega
  simp only [asSlice_slice]
  have e23 : h23[p]? = some (.cells #[.slice a ps.length c] 25) := (fr23.2 _ (by have := ok9.1; omega) hne).trans ((ok9.2 _ hlt).trans e)
  refine stR e23 rfl trivial fun h28 w28 => ?_
  rw [insP_at hi l1 (fun hi => l2 i hi (Nat.le_refl _))] at own23
  have hb' : ∀ b, blk a' b → blk a b ∨ h.size ≤ b := fun b hb => (hb23 b hb).imp id fun h2 => Nat.le_trans ok9.1 h2
  have hnep : ∀ b, blk a' b → b ≠ p := by
    intro b hb e
    subst e
    rcases hb' b hb with h1 | h1
    · exact hne h1
    · omega
  refine k a' h28 ⟨c', ?_, ?_, insP_srt hs⟩ hb' ⟨?_, fun b hb hS => ?_⟩
  · rw [insP_len]; exact w28.new
  · rw [insP_len]; exact own23.keep fun ad ea => w28.old _ (hnep _ ⟨ad, ea, rfl⟩)
  · rw [w28.size]; have := fr23.1; have := ok9.1; omega
  · exact (w28.old b (fun e => hS (.inl e))).trans ((fr23.2 b (by have := ok9.1; omega) (fun h => hS (.inr h))).trans (ok9.2 b hb))
theorem bagTake_call {K : Value → Heap → Prop} {h : Heap} {p : Nat} {a : Option Addr} {ps : List Pr} {q : Pr} (H : BagF h p a ps) (hl : ps.length ≤ 2 ^ 40)
    (k : ∀ h', BagF h' p a (ps.erase q) → Fr (bagS p a) h h' → K (.bool (decide (q ∈ ps))) h') : CallH Try.prog 15 #[.pointer (some ⟨p, 0, none⟩), .agg #[.int .u32 q.1, .int .u32 q.2]] h K := by
  refine call15 ?_
  unfold F15
  have hlt := H.lt
  have hne := H.ne
  have H0 := H
  obtain ⟨c, e, own, hs⟩ := H
  simp only [Option.isNone_some, ifB_false, nilC, asPtr_some]
  have p1 := pushed h (prc q).toArray 29
  rw [show h.push (.cells #[.int .u32 q.1, .int .u32 q.2] 29) = h.push (.cells (prc q).toArray 29) from rfl]
  generalize h.push (.cells (prc q).toArray 29) = h1 at *
  have s1 := p1.size
  have o1 := p1.toOld
  refine ldR ((o1.2 _ hlt).trans e) rfl ?_
  simp only [asSlice_slice]
  refine ldR p1.new rfl (ldR p1.new rfl ?_)
  have sx1 := (own.sx).old o1
  refine callV_fn (bsearch_call (p := q) sx1 hs (by omega) fun i h8 hi l1 l2 o8 => ?_)
  simp only [asTup_tuple]
  refine elemH_mk rfl ?_
  simp only [asInt_int]
  refine elemH_mk rfl ?_
  simp only [asBool_bool]
  have ok8 : Old h.size h h8 := o1.trans (o8.mono o1.1)
  have e8 := (ok8.2 _ hlt).trans e
  have hmem := mem_at hi l1 l2 hs
  have hdec : decide (∃ hi : i < ps.length, ps[i] = q) = decide (q ∈ ps) := by rw [decide_eq_decide]; exact hmem
  rw [hdec]
  refine ifB_dec (fun hin => ?_) (fun hout => ?_)
  · obtain ⟨hi', ei⟩ := hmem.2 hin
    refine ldR e8 rfl ?_
    simp only [asSlice_slice]
    have own8 : OwnP h8 a ps.length c ps := own.keep fun ad ea => ok8.2 _ (own.lt ad ea)
    have hw : IntKind.wrap .i64 ((i : Int) + 1) = (i : Int) + 1 := by rw [wrap64_id' (by omega) (by omega)]
    rw [hw]
    refine callV_fn (delete_call own8 hi' (by omega) fun h21 own21 fr21 => ?_)
    simp only [asSlice_slice]
    have e21 : h21[p]? = some (.cells #[.slice a ps.length c] 25) := (fr21.2 _ (by have := ok8.1; omega) hne).trans e8
    refine stR e21 rfl trivial fun h26 w26 => ?_
    rw [erase_at hi' ei l1] at own21
    have hel : (ps.erase q).length = ps.length - 1 := List.length_erase_of_mem hin
    refine k h26 ⟨c, ?_, ?_, erase_srt hs q⟩ ⟨?_, fun b hb hS => ?_⟩
    · rw [hel]; exact w26.new
    · rw [hel]; exact own21.keep fun ad ea => w26.old _ (fun e => hne ⟨ad, ea, e⟩)
    · rw [w26.size]; have := fr21.1; have := ok8.1; omega
    · exact (w26.old b (fun e => hS (.inl e))).trans ((fr21.2 b (by have := ok8.1; omega) (fun h => hS (.inr h))).trans (ok8.2 b hb))
  · refine k h8 ?_ (ok8.fr _)
    rw [List.erase_of_not_mem hout]
    exact H0.old ok8
end Go.Proofs.Ytlncjcbofgjcfaa
end
section
/- A bag: the least pairs, what is legal, what calls are answered. -/
set_option linter.unusedSimpArgs false
set_option linter.unusedVariables false
set_option maxRecDepth 20000
namespace Go.Proofs.Ytlncjcbofgjcfaa

theorem cmpct_step {ps : List Pr} {i : Nat} (hi : i < ps.length) (h0 : 0 < i) : cmpct ps (i + 1) = if ps[i] = ps[i - 1] then cmpct ps i else cmpct ps i ++ [ps[i]] := by
  rw [cmpct_succ hi, List.getElem?_eq_getElem (by omega)]
  by_cases e : ps[i] = ps[i - 1]
  · rw [if_pos ⟨h0, by rw [e]⟩, if_pos e]
  · rw [if_neg (fun h => e (Option.some.inj h.2).symm), if_neg e]
theorem cmpct_one {ps : List Pr} {i : Nat} (hi : i ≤ ps.length) (h : i ≤ 1) : cmpct ps i = ps.take i := by
  match i, h with
  | 0, _ => rfl
  | 1, _ =>
    rw [cmpct_succ (by omega), if_neg (by omega), List.take_succ_eq_append_getElem (by omega)]
    rfl
theorem set_cells {ps : List Pr} {w : Nat} (hw : w < ps.length) (x : Pr) : List.take (w * 2) (ps.flatMap prc) ++ prc x ++ List.drop (w * 2 + (prc x).length) (ps.flatMap prc) = (ps.set w x).flatMap prc := by
  have e : w * 2 + (prc x).length = (w + 1) * 2 := by show w * 2 + 2 = _; omega
  rw [e, flat_take prc_len, flat_drop prc_len, List.set_eq_take_append_cons_drop, if_pos hw]
  simp
theorem compact_call {K : Value → Heap → Prop} {h : Heap} {a : Option Addr} {l c : Nat} {ps : List Pr} (H : OwnP h a l c ps) (hl : l ≤ 2 ^ 40) (k : ∀ h', OwnP h' a (cmpct ps l).length c (cmpct ps l) → Fr (blk a) h h' → K (.slice a (cmpct ps l).length c) h') :
    CallH Try.prog 40 #[.slice a l c] h K := by
  refine call40 ?_
  unfold F40
  have hsx := H.sx
  have hlen := hsx.len
  have hcap := hsx.cap
  have whole : cmpct ps l = ps → ∀ h', h' = h → K (.slice a l c) h' := by
    rintro e h' rfl
    have := k h' (by rw [e, hlen]; exact H) (Fr.refl _ _)
    rw [e, hlen] at this
    exact this
  refine ifB_dec (fun hlt => ?_) (fun hge => ?_)
  · refine whole ?_ h rfl
    rw [cmpct_one (by omega) (by omega)]; exact List.take_of_length_le (by omega)
  refine ⟨fun vs h' => ∃ w0 w1 w2, ∃ i : Nat, vs = [w0, iv i, w1, w2] ∧ 1 ≤ i ∧ i ≤ l ∧ h' = h ∧ cmpct ps i = ps.take i, fun vs _ => (match vs with | [_, .int _ n, _, _] => l - n.toNat | _ => 0), ⟨_, _, _, 1, rfl, Nat.le_refl _, by omega, rfl, cmpct_one (by omega) (Nat.le_refl _)⟩, ?_⟩
  rintro v2 v3 v4 v5 g6 h7 ⟨w0, w1, w2, i, e, hi1, hil, rfl, hcm⟩
  cases e
  simp only [asInt_int, asI_int]
  refine ifB_dec (fun hlt => ?_) (fun hge2 => ?_)
  rotate_left
  · refine whole ?_ h7 rfl
    obtain rfl : i = l := by omega
    rw [hcm]; exact List.take_of_length_le (by omega)
  have hi' : i < ps.length := by omega
  have hw1 : IntKind.wrap .i64 ((i : Int) - 1) = ((i - 1 : Nat) : Int) := by rw [wrap64_id' (by omega) (by omega)]; omega
  rw [hw1]
  obtain ⟨ad, rfl, hc0, hc1⟩ := spr_at hsx hi'
  obtain ⟨ad', e', hd0, hd1⟩ := spr_at hsx (show i - 1 < ps.length by omega)
  cases e'
  refine ⟨by omega, hlt, ?_⟩
  simp only [asPtr_some, Int.toNat_natCast]
  refine ldH_mk hc0 (ldH_mk hc1 ⟨by omega, by omega, ldH_mk hd0 (ldH_mk hd1 ?_)⟩)
  refine eqvH_pr (.inl rfl) (p := ps[i]) (q := ps[i - 1]) ?_
  have hst := cmpct_step hi' (by omega)
  refine ifB_dec (fun heq => ?_) (fun hne => ?_)
  rotate_left
  · rw [if_neg hne] at hst
    rw [nat_wrap1 (by omega)]
    refine ⟨⟨_, _, _, i + 1, rfl, by omega, by omega, by trivial, ?_⟩, by show l - ((i + 1 : Nat) : Int).toNat < l - (i : Int).toNat; omega⟩
    rw [hst, hcm, List.take_succ_eq_append_getElem hi']
  rw [if_pos heq, hcm] at hst
  refine ⟨by omega, by omega, ?_⟩
  refine ⟨fun vs h' => ∃ w j : Nat, ∃ qs : List Pr, vs = [iv w, iv j] ∧ 1 ≤ j ∧ i + j ≤ l ∧ w < i + j ∧ qs.length = l ∧ OwnP h' (some ad) l c qs ∧ Fr (blk (some ad)) h7 h' ∧ qs.take w = cmpct ps (i + j) ∧ (∀ q, i + j ≤ q + 1 → qs[q]? = ps[q]?),
    fun vs _ => (match vs with | [_, .int _ n] => l - n.toNat | _ => 0), ⟨i, 1, ps, rfl, Nat.le_refl _, by omega, by omega, hlen, H, Fr.refl _ _, by rw [hst], fun _ _ => rfl⟩, ?_⟩
  rintro v21 v22 g23 h24 ⟨w, j, qs, e, hj1, hjl, hwj, hql, own24, fr24, htake, hsame⟩
  cases e
  have hsx24 := own24.sx
  have hwl : w = (cmpct ps (i + j)).length := by rw [← htake, List.length_take]; omega
  simp only [asInt_int, asI_int]
  refine ifB_dec (fun hjlt => ?_) (fun hjge => ?_)
  · have hjlt' : i + j < l := by omega
    have hwj1 : IntKind.wrap .i64 ((j : Int) - 1) = ((j - 1 : Nat) : Int) := by rw [wrap64_id' (by omega) (by omega)]; omega
    rw [hwj1]
    have hsd := SX.drop prc_len hsx24 (i := i) (by omega)
    have hdl : (qs.drop i).length = l - i := by rw [List.length_drop, hql]
    have g1 : (qs.drop i)[j]'(by omega) = ps[i + j]'(by omega) := by
      have := hsame (i + j) (by omega)
      rw [List.getElem?_eq_getElem (by omega), List.getElem?_eq_getElem (by omega)] at this
      rw [List.getElem_drop]; exact Option.some.inj this
    have g2 : (qs.drop i)[j - 1]'(by omega) = ps[i + j - 1]'(by omega) := by
      have := hsame (i + j - 1) (by omega)
      rw [List.getElem?_eq_getElem (by omega), List.getElem?_eq_getElem (by omega)] at this
      rw [List.getElem_drop]
      have e := Option.some.inj this
      have e3 : i + (j - 1) = i + j - 1 := by omega
      simp only [e3]; exact e
    have hst2 := cmpct_step (ps := ps) (i := i + j) (by omega) (by omega)
    refine ⟨fun vs h' => ∃ w' : Nat, ∃ qs' : List Pr, vs = [iv w'] ∧ w' < i + (j + 1) ∧ qs'.length = l ∧ OwnP h' (some ad) l c qs' ∧ Fr (blk (some ad)) h7 h' ∧ qs'.take w' = cmpct ps (i + (j + 1)) ∧ (∀ q, i + (j + 1) ≤ q + 1 → qs'[q]? = ps[q]?), ?_, ?_⟩
    · obtain ⟨ae, ee, hc0, hc1⟩ := spr_at hsd (show j < (qs.drop i).length by omega)
      obtain ⟨ae', ee', hd0, hd1⟩ := spr_at hsd (show j - 1 < (qs.drop i).length by omega)
      rw [g1] at hc0 hc1
      rw [g2] at hd0 hd1
      rw [ee]
      rw [ee] at ee'; cases ee'
      refine ⟨by omega, by omega, ?_⟩
      simp only [asPtr_some, Int.toNat_natCast]
      refine ldH_mk hc0 (ldH_mk hc1 ⟨by omega, by omega, ldH_mk hd0 (ldH_mk hd1 ?_)⟩)
      refine eqvH_pr (.inl rfl) (p := ps[i + j]) (q := ps[i + j - 1]) ?_
      by_cases heq2 : ps[i + j] = ps[i + j - 1]
      · rw [decide_eq_true heq2]
        rw [if_pos heq2] at hst2
        simp only [Bool.not_true, ifB_false]
        exact ⟨w, qs, rfl, by omega, hql, own24, fr24, by rw [htake]; exact hst2.symm, fun q hq => hsame q (by omega)⟩
      · rw [decide_eq_false heq2]
        rw [if_neg heq2] at hst2
        simp only [Bool.not_false, ifB_true]
        refine ⟨by omega, by omega, ldH_mk hc0 (ldH_mk hc1 ⟨by omega, by omega, ?_⟩)⟩
        have hwr : stN h24 (ad.add (w * 2)) 0 (prc ps[i + j]) fun h43 => (∃ w' : Nat, ∃ qs' : List Pr, [iv (IntKind.wrap .i64 ((w : Int) + 1))] = [iv w'] ∧ w' < i + (j + 1) ∧ qs'.length = l ∧ OwnP h43 (some ad) l c qs' ∧ Fr (blk (some ad)) h7 h43 ∧ qs'.take w' = cmpct ps (i + (j + 1)) ∧ (∀ q, i + (j + 1) ≤ q + 1 → qs'[q]? = ps[q]?)) := by
          have hfl := flat_len prc_len qs
          refine Own.write own24 rfl (by show w * 2 + 2 ≤ _; omega) (prc_one _) fun h43 x1 x2 x3 x4 => ?_
          have y := x2 (by show w * 2 + 2 ≤ _; omega)
          rw [set_cells (by omega)] at y
          refine ⟨w + 1, qs.set w ps[i + j], by rw [nat_wrap1 (by omega)], by omega, by simp [hql], y, fr24.trans x3, ?_, fun q hq => ?_⟩
          · rw [show i + (j + 1) = i + j + 1 by omega, hst2, ← htake]
            rw [List.take_succ_eq_append_getElem (by simp; omega), List.take_set_of_le (Nat.le_refl _), List.getElem_set_self]
          · rw [List.getElem?_set_ne (by omega)]; exact hsame q (by omega)
        exact hwr
    · rintro v45 g46 h47 ⟨w', qs', e, c1, c2, c3, c4, c5, c6⟩
      cases e
      rw [nat_wrap1 (by omega)]
      exact ⟨⟨w', j + 1, qs', rfl, by omega, by omega, c1, c2, c3, c4, c5, c6⟩, by show l - ((j + 1 : Nat) : Int).toNat < l - (j : Int).toNat; omega⟩
  · have hij : i + j = l := by omega
    rw [hij] at htake hwl
    refine ⟨by omega, by omega, ?_⟩
    simp only [Int.toNat_natCast]
    refine clear_own (elem := 29) (a := some ad) (l := l) (c := c) (i := w) (m := l - w) und_prs zer_pr zcs_pr zc1_pr (by rw [siz_pr]; exact own24) (by omega) (by omega) (.inr ⟨ad, rfl, ?_⟩) fun h51 own51 fr51 s51 => ?_
    · rw [siz_pr]; unfold subA; rw [if_neg (by omega)]; rfl
    rw [siz_pr, flat_take prc_len, htake] at own51
    refine ⟨by omega, by omega, ?_⟩
    rw [subA_zero, Nat.sub_zero, Nat.sub_zero]
    have := k h51 (by rw [hwl] at own51; exact own51) (fr24.trans fr51)
    rw [← hwl] at this
    exact this

theorem bagMins_call {K : Value → Heap → Prop} {h : Heap} {p : Nat} {a : Option Addr} {ps : List Pr} (H : BagF h p a ps) (hl : ps.length ≤ 2 ^ 40)
    (k : ∀ a' c' h', SPr h' a' (minsP ps).length c' (minsP ps) → Old h.size h h' → K (.slice a' (minsP ps).length c') h') : CallH Try.prog 13 #[.pointer (some ⟨p, 0, none⟩)] h K := by
  refine call13 ?_
  unfold F13
  have hlt := H.lt
  refine callV_fn (bagLeast_call H ?_)
  simp only [asTup_tuple]
  refine elemH_mk rfl ?_
  simp only [asInt_int]
  refine elemH_mk rfl ?_
  simp only [asBool_bool]
  have p1 := pushed h #[.int .u32 0] 27
  generalize h.push (.cells #[.int .u32 0] 27) = h1 at *
  have s1 := p1.size
  refine stR p1.new rfl trivial fun h8 w8 => ?_
  have o8 : Old h.size h h8 := w8.toOld p1.toOld (Nat.le_refl _)
  have hk8 : h8[h.size]? = some (.cells [Value.int .u32 (leastP ps)].toArray 27) := w8.new
  cases hps : ps with
  | nil =>
    rw [hps] at k
    simp only [List.isEmpty_nil, Bool.not_true, Bool.not_false, ifB_true]
    exact k none 0 h8 ⟨Sees.nil _ _, rfl, Nat.le_refl _⟩ o8
  | cons x r =>
    rw [← hps]
    have he : ps.isEmpty = false := by rw [hps]; rfl
    have hleast : leastP ps = x.1 := by rw [hps]; rfl
    have hpos : 0 < ps.length := by rw [hps]; simp
    rw [hleast] at hk8
    rw [he]
    simp only [Bool.not_false, Bool.not_true, ifB_false, nilC, asPtr_some]
    have H8 := H.old o8
    obtain ⟨c, e8, own8, hs⟩ := H8
    refine ldR e8 rfl ?_
    simp only [asSlice_slice]
    have hk : h8[h.size]? = some (.cells [Value.int .u32 x.1].toArray 27) := hk8
    refine callV_fn (indexFunc_call (P := fun q => q.1 != x.1) own8.sx (by omega) (fun q h' o' => ?_) fun h15 o15 => ?_)
    · refine callV_cl (call39 ?_)
      unfold F39
      have pq := pushed h' (prc q).toArray 29
      rw [show h'.push (.cells #[.int .u32 q.1, .int .u32 q.2] 29) = h'.push (.cells (prc q).toArray 29) from rfl]
      generalize h'.push (.cells (prc q).toArray 29) = h2 at *
      refine ldR pq.new rfl ?_
      simp only [asInt_int, asPtr_some]
      have : h2[h.size]? = some (.cells [Value.int .u32 x.1].toArray 27) := (pq.old _ (by have := o'.1; have := w8.size; omega)).trans ((o'.2 _ (by have := w8.size; omega)).trans hk)
      refine ldR this rfl ?_
      simp only [asInt_int]
      exact ⟨by first | rfl | trivial, pq.toOld⟩
    simp only [asInt_int]
    have ok15 : Old h.size h h15 := o8.trans (o15.mono o8.1)
    obtain ⟨c, e15, own15, hs⟩ := H.old ok15
    have hkn := keyN_le ps x.1
    have hcap15 := own15.2.1
    refine ⟨fun vs h' => vs = [iv (keyN ps x.1 : Nat)] ∧ h' = h15, ?_, ?_⟩
    · unfold idxI keyN
      cases hf : ps.findIdx? (fun q => q.1 != x.1) with
      | none =>
        refine ifB_dec (fun _ => ?_) (fun hh => absurd (show (-1 : Int) < 0 by omega) hh)
        refine ldR e15 rfl ?_
        simp only [asSlice_slice]
        exact ⟨rfl, by trivial⟩
      | some i =>
        refine ifB_dec (fun hh => ?_) (fun _ => ⟨rfl, by trivial⟩)
        exact absurd hh (by show ¬ ((i : Nat) : Int) < 0; omega)
    rintro v23 g24 h25 ⟨ev, rfl⟩
    cases ev
    refine ldR e15 rfl ?_
    simp only [asSlice_slice, asInt_int]
    refine ⟨by omega, by omega, ?_⟩
    rw [Int.toNat_natCast, Nat.sub_zero, Nat.sub_zero, subA_zero]
    have hsx := SX.take prc_len own15.sx (i := keyN ps x.1) hkn
    refine callV_fn (clone_call hsx (by omega) fun a' c' h33 own33 hb33 o33 => ?_)
    simp only [asSlice_slice]
    refine callV_fn (compact_call own33 (by omega) fun h38 own38 fr38 => ?_)
    simp only [asSlice_slice]
    have em : minsP ps = cmpct (ps.take (keyN ps x.1)) (keyN ps x.1) := by rw [hps]; rfl
    rw [← em] at own38 ⊢
    have := ok15.1
    refine k a' c' h38 own38.sx ⟨by have := o33.1; have := fr38.1; omega, fun b hb => ?_⟩
    refine (fr38.2 b (by have := o33.1; omega) (fun h => ?_)).trans ((o33.2 b (by omega)).trans (ok15.2 b hb))
    have := hb33 b h
    omega

/-- What is legal. -/
def doP (ps : List Pr) (c a : C3) : Option (List Pr) :=
  if fitsB c a then
    if a.o = 0 then some (insP (c.k, c.v) ps)
    else if a.o = 1 then some ps
    else if a.o = 3 then (if ps = [] then some ps else none)
    else if (a.k, a.v) ∈ minsP ps then (if c.o = 1 then some (ps.erase (a.k, a.v)) else some ps) else none
  else none
theorem bagDo_call {K : Value → Heap → Prop} {h : Heap} {p : Nat} {a : Option Addr} {ps : List Pr} {c3 a3 : C3} (H : BagF h p a ps) (hl : ps.length ≤ 2 ^ 40)
    (k : ∀ a' h', BagF h' p a' ((doP ps c3 a3).getD ps) → (∀ b, blk a' b → blk a b ∨ h.size ≤ b) → Fr (bagS p a) h h' → K (.bool (doP ps c3 a3).isSome) h') :
    CallH Try.prog 18 #[.pointer (some ⟨p, 0, none⟩), .agg c3.cells.toArray, .agg a3.cells.toArray] h K := by
  refine call18 ?_
  unfold F18
  have hlt := H.lt
  have p1 := pushed h c3.cells.toArray 40
  rw [show h.push (.cells #[.int .i64 c3.o, .int .u32 c3.k, .int .u32 c3.v] 40) = h.push (.cells c3.cells.toArray 40) from rfl]
  generalize h.push (.cells c3.cells.toArray 40) = h1 at *
  have s1 := p1.size
  have p2 := pushed h1 a3.cells.toArray 42
  rw [show h1.push (.cells #[.int .i64 a3.o, .int .u32 a3.k, .int .u32 a3.v] 42) = h1.push (.cells a3.cells.toArray 42) from rfl]
  generalize h1.push (.cells a3.cells.toArray 42) = h2 at *
  have s2 := p2.size
  have e2 : h2[h.size]? = some (.cells c3.cells.toArray 40) := (p2.old _ (by omega)).trans p1.new
  have o2 : Old h.size h h2 := p1.toOld.trans (p2.toOld.mono (by omega))
  simp only [Option.isNone_some, ifB_false, nilC, asPtr_some]
  refine ⟨fun vs h' => vs = [.bool (!(fitsB c3 a3))] ∧ Old h2.size h2 h', ?_, ?_⟩
  · refine ldR e2 rfl (ldR e2 rfl (ldR e2 rfl (ldR p2.new rfl (ldR p2.new rfl (ldR p2.new rfl ?_)))))
    refine callV_fn (fits_call (c := c3) (a := a3) fun h8 o8 => ?_)
    simp only [asBool_bool]
    exact ⟨by first | rfl | trivial, o8⟩
  rintro v10 g11 h12 ⟨ev, o12⟩
  cases ev
  simp only [asBool_bool]
  have ok12 : Old h.size h h12 := o2.trans (o12.mono o2.1)
  have dflt : doP ps c3 a3 = none → ∀ h', Old h.size h h' → K (.bool false) h' := by
    intro e h' o
    have := k a h' (by rw [e]; exact H.old o) (fun b hb => .inl hb) (o.fr _)
    rw [e] at this; exact this
  have same : doP ps c3 a3 = some ps → ∀ h', Old h.size h h' → K (.bool true) h' := by
    intro e h' o
    have := k a h' (by rw [e]; exact H.old o) (fun b hb => .inl hb) (o.fr _)
    rw [e] at this; exact this
  refine ifB_mk (fun hf => dflt ?_ h12 ok12) (fun hf => ?_)
  · unfold doP
    rw [if_neg (by revert hf; cases fitsB c3 a3 <;> simp)]
  have hfit : fitsB c3 a3 = true := by revert hf; cases fitsB c3 a3 <;> simp
  have hdo : doP ps c3 a3 = if a3.o = 0 then some (insP (c3.k, c3.v) ps) else if a3.o = 1 then some ps else if a3.o = 3 then (if ps = [] then some ps else none) else if (a3.k, a3.v) ∈ minsP ps then (if c3.o = 1 then some (ps.erase (a3.k, a3.v)) else some ps) else none := by
    unfold doP; rw [if_pos hfit]
  have c12 := (o12.2 _ (by omega)).trans e2
  have a12 := (o12.2 _ (by omega)).trans p2.new
  refine ldR a12 rfl ?_
  simp only [asInt_int]
  refine ldR a12 rfl ?_
  simp only [asInt_int]
  have p13 := pushed h12 #[.int .u32 0, .int .u32 0] 29
  generalize h12.push (.cells #[.int .u32 0, .int .u32 0] 29) = h13 at *
  have s13 := p13.size
  refine stR p13.new rfl trivial fun h18 w18 => ?_
  refine stR w18.new rfl trivial fun h19 w19' => ?_
  have w19 := w18.trans w19'
  have o19 : Old h12.size h12 h19 := w19.toOld p13.toOld (Nat.le_refl _)
  have ok19 : Old h.size h h19 := ok12.trans (o19.mono ok12.1)
  have hs12 := ok12.1
  have hs12' := o12.1
  have c19 := (o19.2 _ (by omega)).trans c12
  have a19 := (o19.2 _ (by omega)).trans a12
  have loc19 : h19[h12.size]? = some (.cells (prc (a3.k, a3.v)).toArray 29) := w19.new
  refine ldR a19 rfl ?_
  simp only [asInt_int]
  refine ifB_mk (fun h0 => ?_) (fun h0 => ?_)
  · rw [if_pos (by simpa using h0)] at hdo
    refine ldR c19 rfl ?_
    simp only [asInt_int]
    refine ldR c19 rfl ?_
    simp only [asInt_int]
    refine callV_fn (bagAdd_call (q := (c3.k, c3.v)) (H.old ok19) hl fun a' h27 B27 hb27 fr27 => ?_)
    have := k a' h27 (by rw [hdo]; exact B27) (fun b hb => (hb27 b hb).imp id fun h => Nat.le_trans ok19.1 h) ((ok19.fr (bagS p a)).trans fr27)
    rw [hdo] at this; exact this
  rw [if_neg (by simpa using h0)] at hdo
  refine ldR a19 rfl ?_
  simp only [asInt_int]
  refine ifB_mk (fun h1' => ?_) (fun h1' => ?_)
  · rw [if_pos (by simpa using h1')] at hdo
    exact same hdo h19 ok19
  rw [if_neg (by simpa using h1')] at hdo
  refine ldR a19 rfl ?_
  simp only [asInt_int]
  refine ifB_mk (fun h3 => ?_) (fun h3 => ?_)
  · rw [if_pos (by simpa using h3)] at hdo
    refine callV_fn (bagLen_call (H.old ok19) ?_)
    simp only [asInt_int]
    by_cases he : ps = []
    · rw [if_pos he] at hdo
      have := same hdo h19 ok19
      rw [he]; exact this
    · rw [if_neg he] at hdo
      have := dflt hdo h19 ok19
      have hn : ps.length ≠ 0 := fun h => he (List.length_eq_zero_iff.1 h)
      rw [show (((ps.length : Nat) : Int) == 0) = false from beq_eq_false_iff_ne.2 (by omega)]
      exact this
  rw [if_neg (by simpa using h3)] at hdo
  refine ldR loc19 rfl (ldR loc19 rfl ?_)
  refine callV_fn (bagMins_call (H.old ok19) hl fun a' c' h38 S38 o38 => ?_)
  simp only [asSlice_slice]
  have hs19 : h12.size < h19.size := (Array.getElem?_eq_some_iff.1 loc19).1
  have loc38 := (o38.2 _ hs19).trans loc19
  refine ⟨cellR loc38 rfl, cellR loc38 rfl, ?_⟩
  have hml := minsP_len ps
  refine callV_fn (contains_call (p := (a3.k, a3.v)) S38 (by omega) fun h43 o43 => ?_)
  have ok38 : Old h.size h h38 := ok19.trans (o38.mono ok19.1)
  have ok43 : Old h.size h h43 := ok38.trans (o43.mono ok38.1)
  simp only [asBool_bool]
  by_cases hin : (a3.k, a3.v) ∈ minsP ps
  · rw [decide_eq_true hin]
    rw [if_pos hin] at hdo
    simp only [Bool.not_true, ifB_false]
    have c43 := (o43.2 _ (by have := o38.1; omega)).trans ((o38.2 _ (by omega)).trans c19)
    refine ldR c43 rfl ?_
    simp only [asInt_int]
    refine ifB_mk (fun hc1 => ?_) (fun hc1 => ?_)
    · rw [if_pos (by simpa using hc1)] at hdo
      have loc43 := (o43.2 _ (by have := o38.1; omega)).trans loc38
      refine ldR loc43 rfl (ldR loc43 rfl ?_)
      refine callV_fn (bagTake_call (q := (a3.k, a3.v)) (H.old ok43) hl fun h50 B50 fr50 => ?_)
      simp only [asBool_bool]
      have := k a h50 (by rw [hdo]; exact B50) (fun b hb => .inl hb) ((ok43.fr (bagS p a)).trans fr50)
      rw [hdo] at this; exact this
    · rw [if_neg (by simpa using hc1)] at hdo
      exact same hdo h43 ok43
  · rw [decide_eq_false hin]
    rw [if_neg hin] at hdo
    simp only [Bool.not_false, ifB_true]
    exact dflt hdo h43 ok43
theorem doP_len {ps qs : List Pr} {c a : C3} (h : doP ps c a = some qs) : qs.length ≤ ps.length + 1 := by
  unfold doP at h
  split at h
  · split at h
    · cases h; rw [insP_len]; omega
    · split at h
      · cases h; omega
      · split at h
        · split at h
          · cases h; omega
          · cases h
        · split at h
          · split at h
            · cases h
              have := (List.erase_sublist (a := (a.k, a.v)) (l := ps)).length_le
              omega
            · cases h; omega
          · cases h
  · cases h
theorem doP_len' (ps : List Pr) (c a : C3) : ((doP ps c a).getD ps).length ≤ ps.length + 1 := by
  cases h : doP ps c a with
  | none => simp
  | some qs => exact doP_len h
end Go.Proofs.Ytlncjcbofgjcfaa
end
section
/- The formulas of functions, printed by a program of mine. -/
set_option linter.unusedVariables false
set_option maxRecDepth 100000
namespace Go.Proofs.Ytlncjcbofgjcfaa
/-- jostle/jostleref13.Least -/
def F11 (K : Value → Heap → Prop) (h : Heap) (x0a : Option Addr) (x0l x0c : Nat) : Prop :=
  (ifB (((x0l : Nat) : Int) == 0) (K (.tuple #[(.int .u32 0), (.bool false)]) h) (((0 : Int) ≤ 0) ∧ (((0 : Int) < ((x0l : Nat) : Int)) ∧ (asPtr (.pointer x0a) (fun a0 => (ldH h a0 (fun v1 => (asInt .u32 v1 (fun n2 => (exI (fun I3 => (exM (fun m4 => ((I3 [(.int .u32 n2), (.int .i64 0)] h) ∧ (∀ v5 : Value, (∀ v6 : Value, (∀ g7 : Env, (∀ h8 : Heap, ((I3 [v5, v6] h8) → (asInt .i64 v6 (fun n9 => (ifB (decide (n9 < ((x0l : Nat) : Int))) (exI (fun I10 => ((asInt .i64 v6 (fun n11 => (((0 : Int) ≤ n11) ∧ (((n11 : Int) < ((x0l : Nat) : Int)) ∧ (asPtr (.pointer x0a) (fun a12 => (ldH h8 (Addr.add a12 (n11.toNat * 2)) (fun v13 => (asInt .u32 v13 (fun n14 => (asInt .u32 v5 (fun n15 => (ifB (decide (n14 < n15)) (asInt .i64 v6 (fun n16 => (((0 : Int) ≤ n16) ∧ (((n16 : Int) < ((x0l : Nat) : Int)) ∧ (asPtr (.pointer x0a) (fun a17 => (ldH h8 (Addr.add a17 (n16.toNat * 2)) (fun v18 => (asInt .u32 v18 (fun n19 => (I10 [(.int .u32 n19)] h8))))))))))) (I10 [v5] h8)))))))))))))) ∧ (∀ v20 : Value, (∀ g21 : Env, (∀ h22 : Heap, ((I10 [v20] h22) → (asInt .i64 v6 (fun n23 => ((I3 [v20, (.int .i64 (IntKind.wrap .i64 (n23 + 1)))] h22) ∧ ((m4 [v20, (.int .i64 (IntKind.wrap .i64 (n23 + 1)))] h22) < (m4 [v5, v6] h8)))))))))))) (asInt .u32 v5 (fun n24 => (K (.tuple #[(.int .u32 n24), (.bool true)]) h8)))))))))))))))))))))))))
theorem vc11 (K : Value → Heap → Prop) (h : Heap) (x0a : Option Addr) (x0l x0c : Nat) : vc Try.prog (bodyOf Try.f11) (retQ Try.prog Try.f11.results.toList (hasRange (bodyOf Try.f11)) h.size K) (envL [(.slice x0a x0l x0c)]) h = F11 K h x0a x0l x0c := by kernel_rfl
theorem ok11 : fnOk Try.prog Try.f11 1 = true := by kernel_rfl
theorem call11 {K : Value → Heap → Prop} {h : Heap} {x0a : Option Addr} {x0l x0c : Nat} (H : F11 K h x0a x0l x0c) : CallH Try.prog 11 #[(.slice x0a x0l x0c)] h K :=
  callH_mk Try.func11 ok11 (Eq.mp (vc11 K h x0a x0l x0c).symm H)
/-- jostle/jostlelaw13.plain -/
def F12 (K : Value → Heap → Prop) (h : Heap) (x0a : Option Addr) (x0l x0c : Nat) : Prop :=
  (exI (fun I0 => (exM (fun m1 => ((I0 [(.slice none 0 0), (.int .i64 0)] h) ∧ (∀ v2 : Value, (∀ v3 : Value, (∀ g4 : Env, (∀ h5 : Heap, ((I0 [v2, v3] h5) → (asInt .i64 v3 (fun n6 => (ifB (decide (n6 < ((x0l : Nat) : Int))) (asSlice v2 (fun o7 k8 k9 => (asInt .i64 v3 (fun n10 => (((0 : Int) ≤ n10) ∧ (((n10 : Int) < ((x0l : Nat) : Int)) ∧ (asPtr (.pointer x0a) (fun a11 => (ldH h5 (Addr.add a11 (n10.toNat * 2)) (fun v12 => (asInt .u32 v12 (fun n13 => (asInt .i64 v3 (fun n14 => (((0 : Int) ≤ n14) ∧ (((n14 : Int) < ((x0l : Nat) : Int)) ∧ (asPtr (.pointer x0a) (fun a15 => (ldH h5 (Addr.add (Addr.add a15 (n14.toNat * 2)) 1) (fun v16 => (asInt .u32 v16 (fun n17 => (appH Try.prog #[32, 32] 32 #[(.slice o7 k8 k9), (.slice (some ⟨h5.size, 0, none⟩) 1 1)] (Array.push h5 (.cells #[(.int .u32 n13), (.int .u32 n17)] 36)) (fun v18 h19 => (asSlice v18 (fun o20 k21 k22 => (asInt .i64 v3 (fun n23 => ((I0 [(.slice o20 k21 k22), (.int .i64 (IntKind.wrap .i64 (n23 + 1)))] h19) ∧ ((m1 [(.slice o20 k21 k22), (.int .i64 (IntKind.wrap .i64 (n23 + 1)))] h19) < (m1 [v2, v3] h5))))))))))))))))))))))))))))))) (asSlice v2 (fun o24 k25 k26 => (K (.slice o24 k25 k26) h5))))))))))))))))
theorem vc12 (K : Value → Heap → Prop) (h : Heap) (x0a : Option Addr) (x0l x0c : Nat) : vc Try.prog (bodyOf Try.f12) (retQ Try.prog Try.f12.results.toList (hasRange (bodyOf Try.f12)) h.size K) (envL [(.slice x0a x0l x0c)]) h = F12 K h x0a x0l x0c := by kernel_rfl
theorem ok12 : fnOk Try.prog Try.f12 1 = true := by kernel_rfl
theorem call12 {K : Value → Heap → Prop} {h : Heap} {x0a : Option Addr} {x0l x0c : Nat} (H : F12 K h x0a x0l x0c) : CallH Try.prog 12 #[(.slice x0a x0l x0c)] h K :=
  callH_mk Try.func12 ok12 (Eq.mp (vc12 K h x0a x0l x0c).symm H)
/-- jostle/jostleref13.Count -/
def F14 (K : Value → Heap → Prop) (h : Heap) (x0a : Option Addr) (x0l x0c : Nat) (x1_0 : Int) (x1_1 : Int) : Prop :=
  (exI (fun I0 => (exM (fun m1 => ((I0 [(.int .i64 0), (.int .i64 0)] (Array.push h (.cells #[(.int .u32 x1_0), (.int .u32 x1_1)] 36))) ∧ (∀ v2 : Value, (∀ v3 : Value, (∀ g4 : Env, (∀ h5 : Heap, ((I0 [v2, v3] h5) → (asInt .i64 v3 (fun n6 => (ifB (decide (n6 < ((x0l : Nat) : Int))) (exI (fun I7 => ((asInt .i64 v3 (fun n8 => (((0 : Int) ≤ n8) ∧ (((n8 : Int) < ((x0l : Nat) : Int)) ∧ (asPtr (.pointer x0a) (fun a9 => (ldH h5 (Addr.add a9 (n8.toNat * 2)) (fun v10 => (ldH h5 (Addr.add (Addr.add a9 (n8.toNat * 2)) 1) (fun v11 => (ldH h5 ⟨h.size, 0, none⟩ (fun v12 => (ldH h5 ⟨h.size, 1, none⟩ (fun v13 => (eqvH Try.prog 36 (.agg #[v10, v11]) (.agg #[v12, v13]) (fun b14 => (ifB b14 (asInt .i64 v2 (fun n15 => (I7 [(.int .i64 (IntKind.wrap .i64 (n15 + 1)))] h5))) (I7 [v2] h5)))))))))))))))))) ∧ (∀ v16 : Value, (∀ g17 : Env, (∀ h18 : Heap, ((I7 [v16] h18) → (asInt .i64 v3 (fun n19 => ((I0 [v16, (.int .i64 (IntKind.wrap .i64 (n19 + 1)))] h18) ∧ ((m1 [v16, (.int .i64 (IntKind.wrap .i64 (n19 + 1)))] h18) < (m1 [v2, v3] h5)))))))))))) (asInt .i64 v2 (fun n20 => (K (.int .i64 n20) h5))))))))))))))))
theorem vc14 (K : Value → Heap → Prop) (h : Heap) (x0a : Option Addr) (x0l x0c : Nat) (x1_0 : Int) (x1_1 : Int) : vc Try.prog (bodyOf Try.f14) (retQ Try.prog Try.f14.results.toList (hasRange (bodyOf Try.f14)) h.size K) (envL [(.slice x0a x0l x0c), (.agg #[(.int .u32 x1_0), (.int .u32 x1_1)])]) h = F14 K h x0a x0l x0c x1_0 x1_1 := by kernel_rfl
theorem ok14 : fnOk Try.prog Try.f14 2 = true := by kernel_rfl
theorem call14 {K : Value → Heap → Prop} {h : Heap} {x0a : Option Addr} {x0l x0c : Nat} {x1_0 : Int} {x1_1 : Int} (H : F14 K h x0a x0l x0c x1_0 x1_1) : CallH Try.prog 14 #[(.slice x0a x0l x0c), (.agg #[(.int .u32 x1_0), (.int .u32 x1_1)])] h K :=
  callH_mk Try.func14 ok14 (Eq.mp (vc14 K h x0a x0l x0c x1_0 x1_1).symm H)
/-- jostle/jostleref13.Without -/
def F16 (K : Value → Heap → Prop) (h : Heap) (x0a : Option Addr) (x0l x0c : Nat) (x1_0 : Int) (x1_1 : Int) : Prop :=
  (exI (fun I0 => (exM (fun m1 => ((I0 [(.slice none 0 0), (.bool false), (.int .i64 0)] (Array.push h (.cells #[(.int .u32 x1_0), (.int .u32 x1_1)] 36))) ∧ (∀ v2 : Value, (∀ v3 : Value, (∀ v4 : Value, (∀ g5 : Env, (∀ h6 : Heap, ((I0 [v2, v3, v4] h6) → (asInt .i64 v4 (fun n7 => (ifB (decide (n7 < ((x0l : Nat) : Int))) (exI (fun I8 => ((exI (fun I9 => ((asInt .i64 v4 (fun n10 => (((0 : Int) ≤ n10) ∧ (((n10 : Int) < ((x0l : Nat) : Int)) ∧ (asPtr (.pointer x0a) (fun a11 => (ldH h6 (Addr.add a11 (n10.toNat * 2)) (fun v12 => (ldH h6 (Addr.add (Addr.add a11 (n10.toNat * 2)) 1) (fun v13 => (ldH h6 ⟨h.size, 0, none⟩ (fun v14 => (ldH h6 ⟨h.size, 1, none⟩ (fun v15 => (eqvH Try.prog 36 (.agg #[v12, v13]) (.agg #[v14, v15]) (fun b16 => (ifB b16 (asBool v3 (fun b17 => (I9 [(.bool (!b17))] h6))) (I9 [(.bool false)] h6)))))))))))))))))) ∧ (∀ v18 : Value, (∀ g19 : Env, (∀ h20 : Heap, ((I9 [v18] h20) → (asBool v18 (fun b21 => (ifB b21 (I8 [v2, (.bool true)] h20) (asSlice v2 (fun o22 k23 k24 => (asInt .i64 v4 (fun n25 => (((0 : Int) ≤ n25) ∧ (((n25 : Int) < ((x0l : Nat) : Int)) ∧ (asPtr (.pointer x0a) (fun a26 => (ldH h20 (Addr.add a26 (n25.toNat * 2)) (fun v27 => (ldH h20 (Addr.add (Addr.add a26 (n25.toNat * 2)) 1) (fun v28 => (appH Try.prog #[32, 32] 32 #[(.slice o22 k23 k24), (.slice (some ⟨h20.size, 0, none⟩) 1 1)] (Array.push h20 (.cells #[v27, v28] 36)) (fun v29 h30 => (asSlice v29 (fun o31 k32 k33 => (I8 [(.slice o31 k32 k33), v3] h30))))))))))))))))))))))))))) ∧ (∀ v34 : Value, (∀ v35 : Value, (∀ g36 : Env, (∀ h37 : Heap, ((I8 [v34, v35] h37) → (asInt .i64 v4 (fun n38 => ((I0 [v34, v35, (.int .i64 (IntKind.wrap .i64 (n38 + 1)))] h37) ∧ ((m1 [v34, v35, (.int .i64 (IntKind.wrap .i64 (n38 + 1)))] h37) < (m1 [v2, v3, v4] h6))))))))))))) (asSlice v2 (fun o39 k40 k41 => (K (.slice o39 k40 k41) h6)))))))))))))))))
theorem vc16 (K : Value → Heap → Prop) (h : Heap) (x0a : Option Addr) (x0l x0c : Nat) (x1_0 : Int) (x1_1 : Int) : vc Try.prog (bodyOf Try.f16) (retQ Try.prog Try.f16.results.toList (hasRange (bodyOf Try.f16)) h.size K) (envL [(.slice x0a x0l x0c), (.agg #[(.int .u32 x1_0), (.int .u32 x1_1)])]) h = F16 K h x0a x0l x0c x1_0 x1_1 := by kernel_rfl
theorem ok16 : fnOk Try.prog Try.f16 2 = true := by kernel_rfl
theorem call16 {K : Value → Heap → Prop} {h : Heap} {x0a : Option Addr} {x0l x0c : Nat} {x1_0 : Int} {x1_1 : Int} (H : F16 K h x0a x0l x0c x1_0 x1_1) : CallH Try.prog 16 #[(.slice x0a x0l x0c), (.agg #[(.int .u32 x1_0), (.int .u32 x1_1)])] h K :=
  callH_mk Try.func16 ok16 (Eq.mp (vc16 K h x0a x0l x0c x1_0 x1_1).symm H)
/-- jostle/jostleref13.Do -/
def F17 (K : Value → Heap → Prop) (h : Heap) (x0a : Option Addr) (x0l x0c : Nat) (x1_0 : Int) (x1_1 : Int) (x1_2 : Int) (x2_0 : Int) (x2_1 : Int) (x2_2 : Int) : Prop :=
  (ldH (Array.push (Array.push h (.cells #[(.int .i64 x1_0), (.int .u32 x1_1), (.int .u32 x1_2)] 40)) (.cells #[(.int .i64 x2_0), (.int .u32 x2_1), (.int .u32 x2_2)] 42)) ⟨h.size, 0, none⟩ (fun v0 => (ldH (Array.push (Array.push h (.cells #[(.int .i64 x1_0), (.int .u32 x1_1), (.int .u32 x1_2)] 40)) (.cells #[(.int .i64 x2_0), (.int .u32 x2_1), (.int .u32 x2_2)] 42)) ⟨h.size, 1, none⟩ (fun v1 => (ldH (Array.push (Array.push h (.cells #[(.int .i64 x1_0), (.int .u32 x1_1), (.int .u32 x1_2)] 40)) (.cells #[(.int .i64 x2_0), (.int .u32 x2_1), (.int .u32 x2_2)] 42)) ⟨h.size, 2, none⟩ (fun v2 => (ldH (Array.push (Array.push h (.cells #[(.int .i64 x1_0), (.int .u32 x1_1), (.int .u32 x1_2)] 40)) (.cells #[(.int .i64 x2_0), (.int .u32 x2_1), (.int .u32 x2_2)] 42)) ⟨(Array.push h (.cells #[(.int .i64 x1_0), (.int .u32 x1_1), (.int .u32 x1_2)] 40)).size, 0, none⟩ (fun v3 => (ldH (Array.push (Array.push h (.cells #[(.int .i64 x1_0), (.int .u32 x1_1), (.int .u32 x1_2)] 40)) (.cells #[(.int .i64 x2_0), (.int .u32 x2_1), (.int .u32 x2_2)] 42)) ⟨(Array.push h (.cells #[(.int .i64 x1_0), (.int .u32 x1_1), (.int .u32 x1_2)] 40)).size, 1, none⟩ (fun v4 => (ldH (Array.push (Array.push h (.cells #[(.int .i64 x1_0), (.int .u32 x1_1), (.int .u32 x1_2)] 40)) (.cells #[(.int .i64 x2_0), (.int .u32 x2_1), (.int .u32 x2_2)] 42)) ⟨(Array.push h (.cells #[(.int .i64 x1_0), (.int .u32 x1_1), (.int .u32 x1_2)] 40)).size, 2, none⟩ (fun v5 => (callV Try.prog (.func (.func 29) #[] #[]) #[(.agg #[v0, v1, v2]), (.agg #[v3, v4, v5])] (Array.push (Array.push h (.cells #[(.int .i64 x1_0), (.int .u32 x1_1), (.int .u32 x1_2)] 40)) (.cells #[(.int .i64 x2_0), (.int .u32 x2_1), (.int .u32 x2_2)] 42)) (fun v6 h7 => (asBool v6 (fun b8 => (ifB (!b8) (K (.tuple #[(.slice x0a x0l x0c), (.bool false)]) h7) (ldH h7 ⟨(Array.push h (.cells #[(.int .i64 x1_0), (.int .u32 x1_1), (.int .u32 x1_2)] 40)).size, 1, none⟩ (fun v9 => (asInt .u32 v9 (fun n10 => (ldH h7 ⟨(Array.push h (.cells #[(.int .i64 x1_0), (.int .u32 x1_1), (.int .u32 x1_2)] 40)).size, 2, none⟩ (fun v11 => (asInt .u32 v11 (fun n12 => (stH (Array.push h7 (.cells #[(.int .u32 0), (.int .u32 0)] 36)) ⟨h7.size, 0, none⟩ (.int .u32 n10) (fun h13 => (stH h13 ⟨h7.size, 1, none⟩ (.int .u32 n12) (fun h14 => (callV Try.prog (.func (.func 11) #[] #[]) #[(.slice x0a x0l x0c)] h14 (fun v15 h16 => (asTup v15 (fun vs17 => (elemH vs17 0 (fun v18 => (asInt .u32 v18 (fun n19 => (asTup v15 (fun vs20 => (elemH vs20 1 (fun v21 => (asBool v21 (fun b22 => (ldH h16 ⟨(Array.push h (.cells #[(.int .i64 x1_0), (.int .u32 x1_1), (.int .u32 x1_2)] 40)).size, 0, none⟩ (fun v23 => (asInt .i64 v23 (fun n24 => (ifB (n24 == 0) (ldH h16 ⟨h.size, 1, none⟩ (fun v25 => (asInt .u32 v25 (fun n26 => (ldH h16 ⟨h.size, 2, none⟩ (fun v27 => (asInt .u32 v27 (fun n28 => ((appH Try.prog #[32, 32] 32 #[(.slice none 0 0), (.slice x0a x0l x0c)] h16 (fun v29 h30 => (asSlice v29 (fun o31 k32 k33 => (((cellAt h30 ⟨h.size, 2, none⟩) = (some v27)) ∧ (((cellAt h30 ⟨h.size, 1, none⟩) = (some v25)) ∧ (appH Try.prog #[32, 32] 32 #[(.slice o31 k32 k33), (.slice (some ⟨h30.size, 0, none⟩) 1 1)] (Array.push h30 (.cells #[(.int .u32 n26), (.int .u32 n28)] 36)) (fun v34 h35 => (asSlice v34 (fun o36 k37 k38 => (K (.tuple #[(.slice o36 k37 k38), (.bool true)]) h35))))))))))) ∧ (appH Try.prog #[32, 32] 32 #[(.slice none 0 0), (.slice x0a x0l x0c)] (Array.push h16 (.cells #[(.int .u32 n26), (.int .u32 n28)] 36)) (fun v39 h40 => (asSlice v39 (fun o41 k42 k43 => (((cellAt h40 ⟨h.size, 2, none⟩) = (some v27)) ∧ (((cellAt h40 ⟨h.size, 1, none⟩) = (some v25)) ∧ (appH Try.prog #[32, 32] 32 #[(.slice o41 k42 k43), (.slice (some ⟨h16.size, 0, none⟩) 1 1)] h40 (fun v44 h45 => (asSlice v44 (fun o46 k47 k48 => (K (.tuple #[(.slice o46 k47 k48), (.bool true)]) h45)))))))))))))))))))) (ifB (n24 == 1) (K (.tuple #[(.slice x0a x0l x0c), (.bool true)]) h16) (ifB (n24 == 3) (K (.tuple #[(.slice x0a x0l x0c), (.bool (!b22))]) h16) (exI (fun I49 => ((ldH h16 ⟨h7.size, 0, none⟩ (fun v50 => (ldH h16 ⟨h7.size, 1, none⟩ (fun v51 => (callV Try.prog (.func (.func 14) #[] #[]) #[(.slice x0a x0l x0c), (.agg #[v50, v51])] h16 (fun v52 h53 => (asInt .i64 v52 (fun n54 => (ifB (n54 == 0) (I49 [(.bool true)] h53) (ldH h53 ⟨h7.size, 0, none⟩ (fun v55 => (asInt .u32 v55 (fun n56 => (I49 [(.bool (n56 != n19))] h53)))))))))))))) ∧ (∀ v57 : Value, (∀ g58 : Env, (∀ h59 : Heap, ((I49 [v57] h59) → (asBool v57 (fun b60 => (ifB b60 (K (.tuple #[(.slice x0a x0l x0c), (.bool false)]) h59) (ldH h59 ⟨h.size, 0, none⟩ (fun v61 => (asInt .i64 v61 (fun n62 => (ifB (n62 == 1) (ldH h59 ⟨h7.size, 0, none⟩ (fun v63 => (ldH h59 ⟨h7.size, 1, none⟩ (fun v64 => (callV Try.prog (.func (.func 16) #[] #[]) #[(.slice x0a x0l x0c), (.agg #[v63, v64])] h59 (fun v65 h66 => (asSlice v65 (fun o67 k68 k69 => (K (.tuple #[(.slice o67 k68 k69), (.bool true)]) h66))))))))) (K (.tuple #[(.slice x0a x0l x0c), (.bool true)]) h59))))))))))))))))))))))))))))))))))))))))))))))))))))))))))))))))))
theorem vc17 (K : Value → Heap → Prop) (h : Heap) (x0a : Option Addr) (x0l x0c : Nat) (x1_0 : Int) (x1_1 : Int) (x1_2 : Int) (x2_0 : Int) (x2_1 : Int) (x2_2 : Int) : vc Try.prog (bodyOf Try.f17) (retQ Try.prog Try.f17.results.toList (hasRange (bodyOf Try.f17)) h.size K) (envL [(.slice x0a x0l x0c), (.agg #[(.int .i64 x1_0), (.int .u32 x1_1), (.int .u32 x1_2)]), (.agg #[(.int .i64 x2_0), (.int .u32 x2_1), (.int .u32 x2_2)])]) h = F17 K h x0a x0l x0c x1_0 x1_1 x1_2 x2_0 x2_1 x2_2 := by kernel_rfl
theorem ok17 : fnOk Try.prog Try.f17 3 = true := by kernel_rfl
theorem call17 {K : Value → Heap → Prop} {h : Heap} {x0a : Option Addr} {x0l x0c : Nat} {x1_0 : Int} {x1_1 : Int} {x1_2 : Int} {x2_0 : Int} {x2_1 : Int} {x2_2 : Int} (H : F17 K h x0a x0l x0c x1_0 x1_1 x1_2 x2_0 x2_1 x2_2) : CallH Try.prog 17 #[(.slice x0a x0l x0c), (.agg #[(.int .i64 x1_0), (.int .u32 x1_1), (.int .u32 x1_2)]), (.agg #[(.int .i64 x2_0), (.int .u32 x2_1), (.int .u32 x2_2)])] h K :=
  callH_mk Try.func17 ok17 (Eq.mp (vc17 K h x0a x0l x0c x1_0 x1_1 x1_2 x2_0 x2_1 x2_2).symm H)
/-- jostle/jostlelaw13.ordered -/
def F22 (K : Value → Heap → Prop) (h : Heap) (x0a : Option Addr) (x0l x0c : Nat) : Prop :=
  (exI (fun I0 => (exM (fun m1 => ((I0 [(.bool false), (.int .i64 1)] h) ∧ (∀ v2 : Value, (∀ v3 : Value, (∀ g4 : Env, (∀ h5 : Heap, ((I0 [v2, v3] h5) → (asInt .i64 v3 (fun n6 => (ifB (decide (n6 < ((x0l : Nat) : Int))) (exI (fun I7 => ((asInt .i64 v3 (fun n8 => (((0 : Int) ≤ n8) ∧ (((n8 : Int) < ((x0l : Nat) : Int)) ∧ (asPtr (.pointer x0a) (fun a9 => (ldH h5 (Addr.add a9 (n8.toNat * 2)) (fun v10 => (asInt .u32 v10 (fun n11 => (asInt .i64 v3 (fun n12 => (((0 : Int) ≤ (IntKind.wrap .i64 (n12 - 1))) ∧ ((((IntKind.wrap .i64 (n12 - 1)) : Int) < ((x0l : Nat) : Int)) ∧ (asPtr (.pointer x0a) (fun a13 => (ldH h5 (Addr.add a13 ((IntKind.wrap .i64 (n12 - 1)).toNat * 2)) (fun v14 => (asInt .u32 v14 (fun n15 => (ifB (decide (n11 < n15)) (I7 [(.tuple #[]), (.bool true)] h5) (asInt .i64 v3 (fun n16 => (((0 : Int) ≤ n16) ∧ (((n16 : Int) < ((x0l : Nat) : Int)) ∧ (asPtr (.pointer x0a) (fun a17 => (ldH h5 (Addr.add a17 (n16.toNat * 2)) (fun v18 => (asInt .u32 v18 (fun n19 => (asInt .i64 v3 (fun n20 => (((0 : Int) ≤ (IntKind.wrap .i64 (n20 - 1))) ∧ ((((IntKind.wrap .i64 (n20 - 1)) : Int) < ((x0l : Nat) : Int)) ∧ (asPtr (.pointer x0a) (fun a21 => (ldH h5 (Addr.add a21 ((IntKind.wrap .i64 (n20 - 1)).toNat * 2)) (fun v22 => (asInt .u32 v22 (fun n23 => (ifB (n19 == n23) (asInt .i64 v3 (fun n24 => (((0 : Int) ≤ n24) ∧ (((n24 : Int) < ((x0l : Nat) : Int)) ∧ (asPtr (.pointer x0a) (fun a25 => (ldH h5 (Addr.add (Addr.add a25 (n24.toNat * 2)) 1) (fun v26 => (asInt .u32 v26 (fun n27 => (asInt .i64 v3 (fun n28 => (((0 : Int) ≤ (IntKind.wrap .i64 (n28 - 1))) ∧ ((((IntKind.wrap .i64 (n28 - 1)) : Int) < ((x0l : Nat) : Int)) ∧ (asPtr (.pointer x0a) (fun a29 => (ldH h5 (Addr.add (Addr.add a29 ((IntKind.wrap .i64 (n28 - 1)).toNat * 2)) 1) (fun v30 => (asInt .u32 v30 (fun n31 => (I7 [(.bool (decide (n27 < n31))), (.bool (decide (n27 < n31)))] h5))))))))))))))))))))) (I7 [(.bool false), (.bool false)] h5))))))))))))))))))))))))))))))))))))))))))) ∧ (∀ v32 : Value, (∀ v33 : Value, (∀ g34 : Env, (∀ h35 : Heap, ((I7 [v32, v33] h35) → (asBool v33 (fun b36 => (ifB b36 (K (.bool false) h35) (asInt .i64 v3 (fun n37 => ((I0 [v2, (.int .i64 (IntKind.wrap .i64 (n37 + 1)))] h35) ∧ ((m1 [v2, (.int .i64 (IntKind.wrap .i64 (n37 + 1)))] h35) < (m1 [v2, v3] h5)))))))))))))))) (K (.bool true) h5))))))))))))))
theorem vc22 (K : Value → Heap → Prop) (h : Heap) (x0a : Option Addr) (x0l x0c : Nat) : vc Try.prog (bodyOf Try.f22) (retQ Try.prog Try.f22.results.toList (hasRange (bodyOf Try.f22)) h.size K) (envL [(.slice x0a x0l x0c)]) h = F22 K h x0a x0l x0c := by kernel_rfl
theorem ok22 : fnOk Try.prog Try.f22 1 = true := by kernel_rfl
theorem call22 {K : Value → Heap → Prop} {h : Heap} {x0a : Option Addr} {x0l x0c : Nat} (H : F22 K h x0a x0l x0c) : CallH Try.prog 22 #[(.slice x0a x0l x0c)] h K :=
  callH_mk Try.func22 ok22 (Eq.mp (vc22 K h x0a x0l x0c).symm H)
/-- jostle/jostleref13.Same -/
def F23 (K : Value → Heap → Prop) (h : Heap) (x0a : Option Addr) (x0l x0c : Nat) (x1a : Option Addr) (x1l x1c : Nat) : Prop :=
  (ifB (((x0l : Nat) : Int) != ((x1l : Nat) : Int)) (K (.bool false) h) (exI (fun I0 => (exM (fun m1 => ((I0 [(.bool false), (.int .i64 0)] h) ∧ (∀ v2 : Value, (∀ v3 : Value, (∀ g4 : Env, (∀ h5 : Heap, ((I0 [v2, v3] h5) → (asInt .i64 v3 (fun n6 => (ifB (decide (n6 < ((x0l : Nat) : Int))) (asInt .i64 v3 (fun n7 => (((0 : Int) ≤ n7) ∧ (((n7 : Int) < ((x0l : Nat) : Int)) ∧ (asPtr (.pointer x0a) (fun a8 => (ldH h5 (Addr.add a8 (n7.toNat * 2)) (fun v9 => (ldH h5 (Addr.add (Addr.add a8 (n7.toNat * 2)) 1) (fun v10 => (asInt .i64 v3 (fun n11 => (((0 : Int) ≤ n11) ∧ (((n11 : Int) < ((x0l : Nat) : Int)) ∧ (asPtr (.pointer x0a) (fun a12 => (ldH h5 (Addr.add a12 (n11.toNat * 2)) (fun v13 => (ldH h5 (Addr.add (Addr.add a12 (n11.toNat * 2)) 1) (fun v14 => (callV Try.prog (.func (.func 14) #[] #[]) #[(.slice x0a x0l x0c), (.agg #[v9, v10])] h5 (fun v15 h16 => (asInt .i64 v15 (fun n17 => (((cellAt h16 (Addr.add a12 (n11.toNat * 2))) = (some v13)) ∧ (((cellAt h16 (Addr.add (Addr.add a12 (n11.toNat * 2)) 1)) = (some v14)) ∧ (callV Try.prog (.func (.func 14) #[] #[]) #[(.slice x1a x1l x1c), (.agg #[v13, v14])] h16 (fun v18 h19 => (asInt .i64 v18 (fun n20 => (ifB (n17 != n20) (K (.bool false) h19) (asInt .i64 v3 (fun n21 => ((I0 [v2, (.int .i64 (IntKind.wrap .i64 (n21 + 1)))] h19) ∧ ((m1 [v2, (.int .i64 (IntKind.wrap .i64 (n21 + 1)))] h19) < (m1 [v2, v3] h5)))))))))))))))))))))))))))))))))))) (K (.bool true) h5)))))))))))))))
theorem vc23 (K : Value → Heap → Prop) (h : Heap) (x0a : Option Addr) (x0l x0c : Nat) (x1a : Option Addr) (x1l x1c : Nat) : vc Try.prog (bodyOf Try.f23) (retQ Try.prog Try.f23.results.toList (hasRange (bodyOf Try.f23)) h.size K) (envL [(.slice x0a x0l x0c), (.slice x1a x1l x1c)]) h = F23 K h x0a x0l x0c x1a x1l x1c := by kernel_rfl
theorem ok23 : fnOk Try.prog Try.f23 2 = true := by kernel_rfl
theorem call23 {K : Value → Heap → Prop} {h : Heap} {x0a : Option Addr} {x0l x0c : Nat} {x1a : Option Addr} {x1l x1c : Nat} (H : F23 K h x0a x0l x0c x1a x1l x1c) : CallH Try.prog 23 #[(.slice x0a x0l x0c), (.slice x1a x1l x1c)] h K :=
  callH_mk Try.func23 ok23 (Eq.mp (vc23 K h x0a x0l x0c x1a x1l x1c).symm H)
/-- jostle/jostlelaw13.lives -/
def F9 (K : Value → Heap → Prop) (h : Heap)  : Prop :=
  (callV Try.prog (.func (.func 34) #[] #[]) #[(.slice (some ⟨h.size, 0, none⟩) 3 3)] (Array.push h (.cells #[(.int .i64 0), (.int .u32 5), (.int .u32 1), (.int .i64 0), (.int .u32 3), (.int .u32 2), (.int .i64 1), (.int .u32 0), (.int .u32 0)] 40)) (fun v0 h1 => (asSlice v0 (fun o2 k3 k4 => (ifB (((k3 : Nat) : Int) == 3) (((0 : Int) ≤ 2) ∧ (((2 : Int) < ((k3 : Nat) : Int)) ∧ (asPtr (.pointer o2) (fun a5 => (ldH h1 (Addr.add a5 6) (fun v6 => (ldH h1 (Addr.add a5 7) (fun v7 => (ldH h1 (Addr.add a5 8) (fun v8 => (eqvH Try.prog 42 (.agg #[v6, v7, v8]) (.agg #[(.int .i64 2), (.int .u32 3), (.int .u32 2)]) (fun b9 => (K (.bool b9) h1))))))))))))) (K (.bool false) h1))))))
theorem vc9 (K : Value → Heap → Prop) (h : Heap)  : vc Try.prog (bodyOf Try.f9) (retQ Try.prog Try.f9.results.toList (hasRange (bodyOf Try.f9)) h.size K) (envL []) h = F9 K h  := by kernel_rfl
theorem ok9 : fnOk Try.prog Try.f9 0 = true := by kernel_rfl
theorem call9 {K : Value → Heap → Prop} {h : Heap}  (H : F9 K h ) : CallH Try.prog 9 #[] h K :=
  callH_mk Try.func9 ok9 (Eq.mp (vc9 K h ).symm H)
/-- jostle/jostlelaw13.BagMins -/
def F3 (K : Value → Heap → Prop) (h : Heap) (x0a : Option Addr) (x0l x0c : Nat) : Prop :=
  (ifB (decide (((x0l : Nat) : Int) > 150)) (callV Try.prog (.func (.func 9) #[] #[]) #[] h (fun v0 h1 => (asBool v0 (fun b2 => (K (.bool b2) h1))))) (exI (fun I3 => (exM (fun m4 => ((I3 [(.int .i64 0)] (Array.push h (.cells #[(.slice none 0 0)] 25))) ∧ (∀ v5 : Value, (∀ g6 : Env, (∀ h7 : Heap, ((I3 [v5] h7) → (asInt .i64 v5 (fun n8 => (ifB (decide (n8 < ((x0l : Nat) : Int))) (asInt .i64 v5 (fun n9 => (((0 : Int) ≤ n9) ∧ (((n9 : Int) < ((x0l : Nat) : Int)) ∧ (asPtr (.pointer x0a) (fun a10 => (ldH h7 (Addr.add a10 (n9.toNat * 2)) (fun v11 => (ldH h7 (Addr.add (Addr.add a10 (n9.toNat * 2)) 1) (fun v12 => (callV Try.prog (.func (.func 10) #[] #[]) #[(.pointer (some ⟨h.size, 0, none⟩)), (.agg #[v11, v12])] h7 (fun v13 h14 => (asInt .i64 v5 (fun n15 => ((I3 [(.int .i64 (IntKind.wrap .i64 (n15 + 1)))] h14) ∧ ((m4 [(.int .i64 (IntKind.wrap .i64 (n15 + 1)))] h14) < (m4 [v5] h7))))))))))))))))) (callV Try.prog (.func (.func 12) #[] #[]) #[(.slice x0a x0l x0c)] h7 (fun v16 h17 => (asSlice v16 (fun o18 k19 k20 => (callV Try.prog (.func (.func 11) #[] #[]) #[(.slice o18 k19 k20)] h17 (fun v21 h22 => (asTup v21 (fun vs23 => (elemH vs23 0 (fun v24 => (asInt .u32 v24 (fun n25 => (asTup v21 (fun vs26 => (elemH vs26 1 (fun v27 => (asBool v27 (fun b28 => (callV Try.prog (.func (.func 13) #[] #[]) #[(.pointer (some ⟨h.size, 0, none⟩))] h22 (fun v29 h30 => (asSlice v29 (fun o31 k32 k33 => (exI (fun I34 => (exM (fun m35 => ((I34 [(.bool false), (.int .i64 0)] h30) ∧ (∀ v36 : Value, (∀ v37 : Value, (∀ g38 : Env, (∀ h39 : Heap, ((I34 [v36, v37] h39) → (asInt .i64 v37 (fun n40 => (ifB (decide (n40 < ((k32 : Nat) : Int))) (exI (fun I41 => ((asInt .i64 v37 (fun n42 => (((0 : Int) ≤ n42) ∧ (((n42 : Int) < ((k32 : Nat) : Int)) ∧ (asPtr (.pointer o31) (fun a43 => (ldH h39 (Addr.add a43 (n42.toNat * 2)) (fun v44 => (asInt .u32 v44 (fun n45 => (ifB (n45 != n25) (I41 [(.tuple #[]), (.bool true)] h39) (asInt .i64 v37 (fun n46 => (ifB (decide (n46 > 0)) (asInt .i64 v37 (fun n47 => (((0 : Int) ≤ n47) ∧ (((n47 : Int) < ((k32 : Nat) : Int)) ∧ (asPtr (.pointer o31) (fun a48 => (ldH h39 (Addr.add (Addr.add a48 (n47.toNat * 2)) 1) (fun v49 => (asInt .u32 v49 (fun n50 => (asInt .i64 v37 (fun n51 => (((0 : Int) ≤ (IntKind.wrap .i64 (n51 - 1))) ∧ ((((IntKind.wrap .i64 (n51 - 1)) : Int) < ((k32 : Nat) : Int)) ∧ (asPtr (.pointer o31) (fun a52 => (ldH h39 (Addr.add (Addr.add a52 ((IntKind.wrap .i64 (n51 - 1)).toNat * 2)) 1) (fun v53 => (asInt .u32 v53 (fun n54 => (I41 [(.bool (decide (n50 ≤ n54))), (.bool (decide (n50 ≤ n54)))] h39))))))))))))))))))))) (I41 [(.bool false), (.bool false)] h39))))))))))))))) ∧ (∀ v55 : Value, (∀ v56 : Value, (∀ g57 : Env, (∀ h58 : Heap, ((I41 [v55, v56] h58) → (asBool v56 (fun b59 => (ifB b59 (K (.bool false) h58) (asInt .i64 v37 (fun n60 => ((I34 [v36, (.int .i64 (IntKind.wrap .i64 (n60 + 1)))] h58) ∧ ((m35 [v36, (.int .i64 (IntKind.wrap .i64 (n60 + 1)))] h58) < (m35 [v36, v37] h39)))))))))))))))) (exI (fun I61 => (exM (fun m62 => ((I61 [v36, (.int .i64 0)] h39) ∧ (∀ v63 : Value, (∀ v64 : Value, (∀ g65 : Env, (∀ h66 : Heap, ((I61 [v63, v64] h66) → (asInt .i64 v64 (fun n67 => (ifB (decide (n67 < ((x0l : Nat) : Int))) (exI (fun I68 => ((asInt .i64 v64 (fun n69 => (((0 : Int) ≤ n69) ∧ (((n69 : Int) < ((x0l : Nat) : Int)) ∧ (asPtr (.pointer x0a) (fun a70 => (ldH h66 (Addr.add a70 (n69.toNat * 2)) (fun v71 => (asInt .u32 v71 (fun n72 => (ifB (n72 == n25) (asInt .i64 v64 (fun n73 => (((0 : Int) ≤ n73) ∧ (((n73 : Int) < ((x0l : Nat) : Int)) ∧ (asPtr (.pointer x0a) (fun a74 => (ldH h66 (Addr.add (Addr.add a74 (n73.toNat * 2)) 1) (fun v75 => (asInt .u32 v75 (fun n76 => (callV Try.prog (.func (.func 12) #[] #[]) #[(.slice o31 k32 k33)] h66 (fun v77 h78 => (asSlice v77 (fun o79 k80 k81 => (((cellAt h78 (Addr.add (Addr.add a74 (n73.toNat * 2)) 1)) = (some v75)) ∧ (callV Try.prog (.func (.func 14) #[] #[]) #[(.slice o79 k80 k81), (.agg #[(.int .u32 n25), (.int .u32 n76)])] h78 (fun v82 h83 => (asInt .i64 v82 (fun n84 => (I68 [(.bool (n84 != 1))] h83)))))))))))))))))))) (I68 [(.bool false)] h66)))))))))))) ∧ (∀ v85 : Value, (∀ g86 : Env, (∀ h87 : Heap, ((I68 [v85] h87) → (asBool v85 (fun b88 => (ifB b88 (K (.bool false) h87) (asInt .i64 v64 (fun n89 => ((I61 [v63, (.int .i64 (IntKind.wrap .i64 (n89 + 1)))] h87) ∧ ((m62 [v63, (.int .i64 (IntKind.wrap .i64 (n89 + 1)))] h87) < (m62 [v63, v64] h66))))))))))))))) (ifB (b28 == (decide (((k32 : Nat) : Int) > 0))) (callV Try.prog (.func (.func 9) #[] #[]) #[] h66 (fun v90 h91 => (asBool v90 (fun b92 => (K (.bool b92) h91))))) (K (.bool false) h66)))))))))))))))))))))))))))))))))))))))))))))))))))))))))))))))
theorem vc3 (K : Value → Heap → Prop) (h : Heap) (x0a : Option Addr) (x0l x0c : Nat) : vc Try.prog (bodyOf Try.f3) (retQ Try.prog Try.f3.results.toList (hasRange (bodyOf Try.f3)) h.size K) (envL [(.slice x0a x0l x0c)]) h = F3 K h x0a x0l x0c := by kernel_rfl
theorem ok3 : fnOk Try.prog Try.f3 1 = true := by kernel_rfl
theorem call3 {K : Value → Heap → Prop} {h : Heap} {x0a : Option Addr} {x0l x0c : Nat} (H : F3 K h x0a x0l x0c) : CallH Try.prog 3 #[(.slice x0a x0l x0c)] h K :=
  callH_mk Try.func3 ok3 (Eq.mp (vc3 K h x0a x0l x0c).symm H)
/-- jostle/jostlelaw13.BagPlays -/
def F4 (K : Value → Heap → Prop) (h : Heap) (x0a : Option Addr) (x0l x0c : Nat) : Prop :=
  (ifB (decide (((x0l : Nat) : Int) > 150)) (callV Try.prog (.func (.func 9) #[] #[]) #[] h (fun v0 h1 => (asBool v0 (fun b2 => (K (.bool b2) h1))))) (exI (fun I3 => (exM (fun m4 => ((I3 [(.bool false), (.slice none 0 0), (.int .i64 0), (.tuple #[]), (.tuple #[]), (.tuple #[]), (.tuple #[]), (.tuple #[]), (.tuple #[]), (.tuple #[]), (.tuple #[]), (.tuple #[]), (.tuple #[]), (.tuple #[])] (Array.push h (.cells #[(.slice none 0 0)] 25))) ∧ (∀ v5 : Value, (∀ v6 : Value, (∀ v7 : Value, (∀ v8 : Value, (∀ v9 : Value, (∀ v10 : Value, (∀ v11 : Value, (∀ v12 : Value, (∀ v13 : Value, (∀ v14 : Value, (∀ v15 : Value, (∀ v16 : Value, (∀ v17 : Value, (∀ v18 : Value, (∀ g19 : Env, (∀ h20 : Heap, ((I3 [v5, v6, v7, v8, v9, v10, v11, v12, v13, v14, v15, v16, v17, v18] h20) → (asInt .i64 v7 (fun n21 => (ifB (decide (n21 < ((x0l : Nat) : Int))) (asInt .i64 v7 (fun n22 => (((0 : Int) ≤ n22) ∧ (((n22 : Int) < ((x0l : Nat) : Int)) ∧ (asPtr (.pointer x0a) (fun a23 => (ldH h20 (Addr.add a23 (n22.toNat * 7)) (fun v24 => (ldH h20 (Addr.add (Addr.add a23 (n22.toNat * 7)) 1) (fun v25 => (ldH h20 (Addr.add (Addr.add a23 (n22.toNat * 7)) 2) (fun v26 => (ldH h20 (Addr.add (Addr.add a23 (n22.toNat * 7)) 3) (fun v27 => (ldH h20 (Addr.add (Addr.add a23 (n22.toNat * 7)) 4) (fun v28 => (ldH h20 (Addr.add (Addr.add a23 (n22.toNat * 7)) 5) (fun v29 => (ldH h20 (Addr.add (Addr.add a23 (n22.toNat * 7)) 6) (fun v30 => (stH (Array.push h20 (.cells #[(.int .i64 0), (.int .i64 0), (.int .u32 0), (.int .u32 0), (.int .i64 0), (.int .u32 0), (.int .u32 0)] 44)) ⟨h20.size, 0, none⟩ v24 (fun h31 => (stH h31 ⟨h20.size, 1, none⟩ v25 (fun h32 => (stH h32 ⟨h20.size, 2, none⟩ v26 (fun h33 => (stH h33 ⟨h20.size, 3, none⟩ v27 (fun h34 => (stH h34 ⟨h20.size, 4, none⟩ v28 (fun h35 => (stH h35 ⟨h20.size, 5, none⟩ v29 (fun h36 => (stH h36 ⟨h20.size, 6, none⟩ v30 (fun h37 => (ldH h37 (Addr.add ⟨h20.size, 0, none⟩ 2) (fun v38 => (asInt .u32 v38 (fun n39 => (ldH h37 (Addr.add ⟨h20.size, 0, none⟩ 3) (fun v40 => (asInt .u32 v40 (fun n41 => (stH (Array.push h37 (.cells #[(.int .u32 0), (.int .u32 0)] 36)) ⟨h37.size, 0, none⟩ (.int .u32 n39) (fun h42 => (stH h42 ⟨h37.size, 1, none⟩ (.int .u32 n41) (fun h43 => (exI (fun I44 => ((ldH h43 ⟨h20.size, 0, none⟩ (fun v45 => (asInt .i64 v45 (fun n46 => (ifB (n46 == 1) (ldH h43 ⟨h37.size, 0, none⟩ (fun v47 => (asInt .u32 v47 (fun n48 => (ldH h43 ⟨h37.size, 1, none⟩ (fun v49 => (asInt .u32 v49 (fun n50 => (callV Try.prog (.func (.func 10) #[] #[]) #[(.pointer (some ⟨h.size, 0, none⟩)), (.agg #[(.int .u32 n48), (.int .u32 n50)])] h43 (fun v51 h52 => (asSlice v6 (fun o53 k54 k55 => (ldH h52 ⟨h37.size, 0, none⟩ (fun v56 => (ldH h52 ⟨h37.size, 1, none⟩ (fun v57 => (appH Try.prog #[32, 32] 32 #[(.slice o53 k54 k55), (.slice (some ⟨h52.size, 0, none⟩) 1 1)] (Array.push h52 (.cells #[v56, v57] 36)) (fun v58 h59 => (asSlice v58 (fun o60 k61 k62 => (I44 [v5, (.slice o60 k61 k62), v8, v9, v14, (.bool true), v16] h59))))))))))))))))))))) (ifB (n46 == 2) (ldH h43 ⟨h37.size, 0, none⟩ (fun v63 => (asInt .u32 v63 (fun n64 => (ldH h43 ⟨h37.size, 1, none⟩ (fun v65 => (asInt .u32 v65 (fun n66 => (asSlice v6 (fun o67 k68 k69 => (ldH h43 ⟨h37.size, 0, none⟩ (fun v70 => (ldH h43 ⟨h37.size, 1, none⟩ (fun v71 => (callV Try.prog (.func (.func 15) #[] #[]) #[(.pointer (some ⟨h.size, 0, none⟩)), (.agg #[(.int .u32 n64), (.int .u32 n66)])] h43 (fun v72 h73 => (asBool v72 (fun b74 => (((cellAt h73 ⟨h37.size, 0, none⟩) = (some v70)) ∧ (((cellAt h73 ⟨h37.size, 1, none⟩) = (some v71)) ∧ (callV Try.prog (.func (.func 14) #[] #[]) #[(.slice o67 k68 k69), (.agg #[v70, v71])] h73 (fun v75 h76 => (asInt .i64 v75 (fun n77 => (ifB (!(b74 == (decide (n77 > 0)))) (K (.bool false) h76) (asSlice v6 (fun o78 k79 k80 => (ldH h76 ⟨h37.size, 0, none⟩ (fun v81 => (ldH h76 ⟨h37.size, 1, none⟩ (fun v82 => (callV Try.prog (.func (.func 16) #[] #[]) #[(.slice o78 k79 k80), (.agg #[v81, v82])] h76 (fun v83 h84 => (asSlice v83 (fun o85 k86 k87 => (I44 [v5, (.slice o85 k86 k87), v8, v9, v14, (.bool false), (.bool true)] h84)))))))))))))))))))))))))))))))))))) (asSlice v6 (fun o88 k89 k90 => (ldH h43 ⟨h20.size, 1, none⟩ (fun v91 => (ldH h43 (Addr.add ⟨h20.size, 0, none⟩ 2) (fun v92 => (ldH h43 (Addr.add ⟨h20.size, 0, none⟩ 3) (fun v93 => (ldH h43 ⟨h20.size, 4, none⟩ (fun v94 => (ldH h43 (Addr.add ⟨h20.size, 0, none⟩ 5) (fun v95 => (ldH h43 (Addr.add ⟨h20.size, 0, none⟩ 6) (fun v96 => (callV Try.prog (.func (.func 17) #[] #[]) #[(.slice o88 k89 k90), (.agg #[v91, v92, v93]), (.agg #[v94, v95, v96])] h43 (fun v97 h98 => (asTup v97 (fun vs99 => (elemH vs99 0 (fun v100 => (asSlice v100 (fun o101 k102 k103 => (asTup v97 (fun vs104 => (elemH vs104 1 (fun v105 => (asBool v105 (fun b106 => (ldH h98 ⟨h20.size, 1, none⟩ (fun v107 => (ldH h98 (Addr.add ⟨h20.size, 0, none⟩ 2) (fun v108 => (ldH h98 (Addr.add ⟨h20.size, 0, none⟩ 3) (fun v109 => (ldH h98 ⟨h20.size, 4, none⟩ (fun v110 => (ldH h98 (Addr.add ⟨h20.size, 0, none⟩ 5) (fun v111 => (ldH h98 (Addr.add ⟨h20.size, 0, none⟩ 6) (fun v112 => (callV Try.prog (.func (.func 18) #[] #[]) #[(.pointer (some ⟨h.size, 0, none⟩)), (.agg #[v107, v108, v109]), (.agg #[v110, v111, v112])] h98 (fun v113 h114 => (asBool v113 (fun b115 => (ifB (!(b115 == b106)) (K (.bool false) h114) (I44 [v5, (.slice o101 k102 k103), (.slice o101 k102 k103), (.bool b106), v97, (.bool false), (.bool false)] h114)))))))))))))))))))))))))))))))))))))))))))))))))))) ∧ (∀ v116 : Value, (∀ v117 : Value, (∀ v118 : Value, (∀ v119 : Value, (∀ v120 : Value, (∀ v121 : Value, (∀ v122 : Value, (∀ g123 : Env, (∀ h124 : Heap, ((I44 [v116, v117, v118, v119, v120, v121, v122] h124) → (callV Try.prog (.func (.func 19) #[] #[]) #[(.pointer (some ⟨h.size, 0, none⟩))] h124 (fun v125 h126 => (asTup v125 (fun vs127 => (elemH vs127 0 (fun v128 => (asInt .u32 v128 (fun n129 => (asTup v125 (fun vs130 => (elemH vs130 1 (fun v131 => (asBool v131 (fun b132 => (asSlice v117 (fun o133 k134 k135 => (callV Try.prog (.func (.func 11) #[] #[]) #[(.slice o133 k134 k135)] h126 (fun v136 h137 => (asTup v136 (fun vs138 => (elemH vs138 0 (fun v139 => (asInt .u32 v139 (fun n140 => (asTup v136 (fun vs141 => (elemH vs141 1 (fun v142 => (asBool v142 (fun b143 => (exI (fun I144 => ((ifB (n129 != n140) (I144 [(.bool true), (.bool true)] h137) (ifB (!(b132 == b143)) (I144 [(.bool (!(b132 == b143))), (.bool true)] h137) (callV Try.prog (.func (.func 20) #[] #[]) #[(.pointer (some ⟨h.size, 0, none⟩))] h137 (fun v145 h146 => (asInt .i64 v145 (fun n147 => (asSlice v117 (fun o148 k149 k150 => (I144 [(.bool (!(b132 == b143))), (.bool (n147 != ((k149 : Nat) : Int)))] h146))))))))) ∧ (∀ v151 : Value, (∀ v152 : Value, (∀ g153 : Env, (∀ h154 : Heap, ((I144 [v151, v152] h154) → (asBool v152 (fun b155 => (ifB b155 (K (.bool false) h154) (asInt .i64 v7 (fun n156 => ((I3 [v116, v117, (.int .i64 (IntKind.wrap .i64 (n156 + 1))), v118, v119, (.int .u32 n129), (.bool b132), (.int .u32 n140), (.bool b143), v120, v121, v122, v125, v136] h154) ∧ ((m4 [v116, v117, (.int .i64 (IntKind.wrap .i64 (n156 + 1))), v118, v119, (.int .u32 n129), (.bool b132), (.int .u32 n140), (.bool b143), v120, v121, v122, v125, v136] h154) < (m4 [v5, v6, v7, v8, v9, v10, v11, v12, v13, v14, v15, v16, v17, v18] h20))))))))))))))))))))))))))))))))))))))))))))))))))))))))))))))))))))))))))))))))))))))))))))))))))))))))) (callV Try.prog (.func (.func 21) #[] #[]) #[(.pointer (some ⟨h.size, 0, none⟩))] h20 (fun v157 h158 => (asSlice v157 (fun o159 k160 k161 => (callV Try.prog (.func (.func 22) #[] #[]) #[(.slice o159 k160 k161)] h158 (fun v162 h163 => (asBool v162 (fun b164 => (ifB b164 (callV Try.prog (.func (.func 12) #[] #[]) #[(.slice o159 k160 k161)] h163 (fun v165 h166 => (asSlice v165 (fun o167 k168 k169 => (asSlice v6 (fun o170 k171 k172 => (callV Try.prog (.func (.func 23) #[] #[]) #[(.slice o167 k168 k169), (.slice o170 k171 k172)] h166 (fun v173 h174 => (asBool v173 (fun b175 => (ifB b175 (callV Try.prog (.func (.func 9) #[] #[]) #[] h174 (fun v176 h177 => (asBool v176 (fun b178 => (K (.bool b178) h177))))) (K (.bool false) h174)))))))))))) (K (.bool false) h163))))))))))))))))))))))))))))))))))))
theorem vc4 (K : Value → Heap → Prop) (h : Heap) (x0a : Option Addr) (x0l x0c : Nat) : vc Try.prog (bodyOf Try.f4) (retQ Try.prog Try.f4.results.toList (hasRange (bodyOf Try.f4)) h.size K) (envL [(.slice x0a x0l x0c)]) h = F4 K h x0a x0l x0c := by kernel_rfl
theorem ok4 : fnOk Try.prog Try.f4 1 = true := by kernel_rfl
theorem call4 {K : Value → Heap → Prop} {h : Heap} {x0a : Option Addr} {x0l x0c : Nat} (H : F4 K h x0a x0l x0c) : CallH Try.prog 4 #[(.slice x0a x0l x0c)] h K :=
  callH_mk Try.func4 ok4 (Eq.mp (vc4 K h x0a x0l x0c).symm H)
end Go.Proofs.Ytlncjcbofgjcfaa
end
section
/- The document's pairs: a list without order. -/
set_option linter.unusedSimpArgs false
set_option linter.unusedVariables false
set_option maxRecDepth 20000
namespace Go.Proofs.Ytlncjcbofgjcfaa

theorem und_rrs : und Try.prog 32 = .slice 36 := by kernel_rfl
theorem there_rr : there Try.prog 36 = true := by kernel_rfl
theorem zer_rr : zer Try.prog 36 = some (.agg #[.int .u32 0, .int .u32 0]) := by kernel_rfl
theorem siz_rr : siz Try.prog 36 = 2 := by kernel_rfl
theorem byt_rr : byt Try.prog 36 = 8 := by kernel_rfl
theorem zcs_rr : (Value.agg #[.int .u32 0, .int .u32 0]).cells.size = siz Try.prog 36 := by rw [siz_rr]; rfl
abbrev OwnR (h : Heap) (a : Option Addr) (l c : Nat) (ps : List Pr) : Prop := Own h 36 2 a l c (ps.flatMap prc)
theorem ownR_sx {h : Heap} {a : Option Addr} {l c : Nat} {ps : List Pr} (H : OwnR h a l c ps) : SX prc h a l c ps := Own.sx prc_len (by omega) H
theorem Own.disj {h : Heap} {t1 t2 : TypeId} {n1 n2 l1 l2 c1 c2 : Nat} {a1 a2 : Option Addr} {x1 x2 : List Value} (H1 : Own h t1 n1 a1 l1 c1 x1) (H2 : Own h t2 n2 a2 l2 c2 x2) (hne : t1 ≠ t2) {b : Nat} (hb : blk a1 b) : ¬ blk a2 b := by
  rintro ⟨ad2, e2, eb2⟩
  obtain ⟨ad1, e1, eb1⟩ := hb
  rcases H1.2.2 with ⟨e, _⟩ | ⟨b1, r1, e, hb1, _⟩
  · rw [e] at e1; cases e1
  rcases H2.2.2 with ⟨e', _⟩ | ⟨b2, r2, e', hb2, _⟩
  · rw [e'] at e2; cases e2
  rw [e] at e1; cases e1
  rw [e'] at e2; cases e2
  simp only at eb1 eb2
  subst eb1; subst eb2
  rw [hb1] at hb2
  cases hb2; exact hne rfl

/-- append one thing to a row of one's own, from anywhere. -/
theorem app_rr {h : Heap} {a a2 : Option Addr} {l c n n2 : Nat} {rs ys : List Pr} {K : Value → Heap → Prop} (ho : OwnR h a l c rs) (hs : Sees h a2 (ys.flatMap prc)) (hn : ys.length = n) (hl : l + n ≤ 2 ^ 40)
    (H : ∀ a' c' h', OwnR h' a' (l + n) c' (rs ++ ys) → (∀ b, blk a' b → blk a b ∨ h.size ≤ b) → Fr (blk a) h h' → K (.slice a' (l + n) c') h') :
    appH Try.prog #[32, 32] 32 #[.slice a l c, .slice a2 n n2] h K := by
  refine appH_own (ys := ys.flatMap prc) (n := n) und_rrs there_rr zer_rr zcs_rr (by rw [siz_rr]; exact ho) hs (by rw [flat_len prc_len, hn, siz_rr]) (prcs_one ys) (by rw [byt_rr]; omega) (by rw [byt_rr]; omega) ?_
  intro a' c' h' own s' old hor
  rw [siz_rr] at own
  refine H a' c' h' ?_ (fun b hb => ?_) ⟨s', fun b hb hS => old b hb fun ad e eb => hS ⟨ad, e, eb⟩⟩
  · unfold OwnR; rw [List.flatMap_append]; exact own
  · obtain ⟨ad, e, rfl⟩ := hb
    rcases hor with h1 | h1
    · rw [h1] at e; exact .inl ⟨ad, e, rfl⟩
    · rw [h1] at e; cases e; exact .inr (Nat.le_refl _)
theorem sees_one {h : Heap} {b : Nat} {p : Pr} {t : TypeId} (e : h[b]? = some (.cells (prc p).toArray t)) : Sees h (some ⟨b, 0, none⟩) ([p].flatMap prc) := by
  intro j v hj
  refine ⟨_, rfl, ?_⟩
  rw [add_lit, cellAt_of e, List.getElem?_toArray, Nat.zero_add]
  simpa using hj
theorem app_r1 {h : Heap} {a : Option Addr} {l c : Nat} {rs : List Pr} {p : Pr} {K : Value → Heap → Prop} (ho : OwnR h a l c rs) (hl : l < 2 ^ 40)
    (H : ∀ a' c' h', OwnR h' a' (l + 1) c' (rs ++ [p]) → (∀ b, blk a' b → blk a b ∨ h.size ≤ b) → Fr (blk a) h h' → K (.slice a' (l + 1) c') h') :
    appH Try.prog #[32, 32] 32 #[.slice a l c, .slice (some ⟨h.size, 0, none⟩) 1 1] (h.push (.cells #[.int .u32 p.1, .int .u32 p.2] 36)) K := by
  have p1 := pushed h (prc p).toArray 36
  rw [show h.push (.cells #[.int .u32 p.1, .int .u32 p.2] 36) = h.push (.cells (prc p).toArray 36) from rfl]
  generalize h.push (.cells (prc p).toArray 36) = h1 at *
  refine app_rr (ys := [p]) (ho.keep fun ad e => p1.old _ (ho.lt ad e)) (sees_one p1.new) rfl (by omega) fun a' c' h' own hb fr => ?_
  have s1 := p1.size
  exact H a' c' h' own (fun b x => (hb b x).imp id fun y => by omega) ((p1.toOld.fr (blk a)).trans fr)

/-! ### the least key -/
def IsMin (n : Int) (rs : List Pr) : Prop := (∀ q ∈ rs, n ≤ q.1) ∧ ∃ q ∈ rs, q.1 = n
theorem IsMin.unique {n m : Int} {rs : List Pr} (x : IsMin n rs) (y : IsMin m rs) : n = m := by
  obtain ⟨x1, q, hq, rfl⟩ := x
  obtain ⟨y1, r, hr, rfl⟩ := y
  have := x1 r hr
  have := y1 q hq
  omega
theorem IsMin.perm {n : Int} {rs ps : List Pr} (x : IsMin n rs) (hp : rs.Perm ps) : IsMin n ps := ⟨fun q hq => x.1 q (hp.mem_iff.2 hq), by obtain ⟨q, hq, e⟩ := x.2; exact ⟨q, hp.mem_iff.1 hq, e⟩⟩
theorem leastP_min {ps : List Pr} (H : Srt ps) (hne : ps ≠ []) : IsMin (leastP ps) ps := by
  cases ps with
  | nil => exact absurd rfl hne
  | cons p r =>
    obtain ⟨h1, _⟩ := List.pairwise_cons.1 H
    refine ⟨fun q hq => ?_, p, by simp, rfl⟩
    show p.1 ≤ q.1
    rcases List.mem_cons.1 hq with rfl | hq
    · exact Int.le_refl _
    · have := h1 q hq
      unfold ple at this; omega
/-- The least key; 0: there is none. -/
def minK : List Pr → Int
  | [] => 0
  | p :: r => r.foldl (fun m q => if q.1 < m then q.1 else m) p.1
theorem minK_min {rs : List Pr} (hne : rs ≠ []) : IsMin (minK rs) rs := by
  cases rs with
  | nil => exact absurd rfl hne
  | cons p r =>
    have key : ∀ (r l : List Pr) (m : Int), IsMin m l → IsMin (r.foldl (fun m q => if q.1 < m then q.1 else m) m) (l ++ r) := by
      intro r
      induction r with
      | nil => intro l m h; simpa using h
      | cons x r ih =>
        intro l m h
        rw [List.foldl_cons, show l ++ x :: r = (l ++ [x]) ++ r by simp]
        refine ih (l ++ [x]) _ ⟨fun q hq => ?_, ?_⟩
        · rcases List.mem_append.1 hq with hq | hq
          · have := h.1 q hq
            split <;> omega
          · rw [List.mem_singleton.1 hq]
            split <;> omega
        · split
          · exact ⟨x, by simp, rfl⟩
          · obtain ⟨q, hq, e⟩ := h.2
            exact ⟨q, List.mem_append_left _ hq, e⟩
    exact key r [p] p.1 ⟨fun q hq => by rw [List.mem_singleton.1 hq]; exact Int.le_refl _, p, by simp, rfl⟩
theorem minK_eq {rs : List Pr} {n : Int} (h : IsMin n rs) : n = minK rs := h.unique (minK_min (by obtain ⟨q, hq, _⟩ := h.2; intro e; rw [e] at hq; simp at hq))
theorem minK_perm {ps rs : List Pr} (hS : Srt ps) (hp : ps.Perm rs) : leastP ps = minK rs := by
  by_cases e : ps = []
  · subst e
    have : rs = [] := hp.nil_eq.symm
    subst this; rfl
  · exact minK_eq ((leastP_min hS e).perm hp)
theorem refLeast_call {K : Value → Heap → Prop} {h : Heap} {a : Option Addr} {l c : Nat} {rs : List Pr} (H : SX prc h a l c rs) (hl : l < 2 ^ 60) (k : K (.tuple #[.int .u32 (minK rs), .bool (!rs.isEmpty)]) h) :
    CallH Try.prog 11 #[.slice a l c] h K := by
  refine call11 ?_
  unfold F11
  have hlen := H.len
  refine ifB_mk (fun he => ?_) (fun he => ?_)
  · have : rs = [] := List.length_eq_zero_iff.1 (by have : (l : Int) = 0 := by simpa using he
                                                    omega)
    rw [this] at k; exact k
  · have hne : 0 < rs.length := by
      have : (l : Int) ≠ 0 := by simpa using he
      omega
    have hne' : rs ≠ [] := List.ne_nil_of_length_pos hne
    have hemp : rs.isEmpty = false := by cases rs <;> first | exact absurd rfl hne' | rfl
    rw [hemp] at k
    obtain ⟨ad, rfl, hc0, _⟩ := spr_at H hne
    rw [Nat.zero_mul, add_zero] at hc0
    refine ⟨by omega, by omega, ?_⟩
    simp only [asPtr_some]
    refine ldH_mk hc0 ?_
    simp only [asInt_int]
    refine ⟨fun vs h' => ∃ n : Int, ∃ i : Nat, vs = [.int .u32 n, iv i] ∧ i ≤ l ∧ h' = h ∧ (∀ q (hq : q < rs.length), q < i → n ≤ (rs[q]).1) ∧ ∃ q ∈ rs, q.1 = n, fun vs _ => (match vs with | [_, .int _ n] => l - n.toNat | _ => 0), ⟨_, 0, rfl, Nat.zero_le _, rfl, fun q _ h => by omega, rs[0], List.getElem_mem _, rfl⟩, ?_⟩
    rintro v5 v6 g7 h8 ⟨n, i, e, hi, rfl, hle, hex⟩
    cases e
    simp only [asInt_int]
    refine ifB_dec (fun hlt => ?_) (fun hge => ?_)
    · have hi' : i < rs.length := by omega
      obtain ⟨ad', e', hc0, _⟩ := spr_at H hi'
      cases e'
      refine ⟨fun vs h' => ∃ m : Int, vs = [.int .u32 m] ∧ h' = h8 ∧ (∀ q (hq : q < rs.length), q < i + 1 → m ≤ (rs[q]).1) ∧ ∃ q ∈ rs, q.1 = m, ?_, ?_⟩
      · refine ⟨by omega, hlt, ?_⟩
        simp only [Int.toNat_natCast]
        refine ldH_mk hc0 ?_
        simp only [asInt_int]
        refine ifB_dec (fun hq => ?_) (fun hq => ?_)
        · refine ⟨by omega, hlt, ldH_mk hc0 ?_⟩
          simp only [asInt_int]
          refine ⟨_, rfl, by trivial, fun q hq' hqi => ?_, rs[i], List.getElem_mem _, rfl⟩
          by_cases e : q = i
          · subst e; exact Int.le_refl _
          · have := hle q hq' (by omega); omega
        · refine ⟨n, rfl, by trivial, fun q hq' hqi => ?_, hex⟩
          by_cases e : q = i
          · subst e; omega
          · exact hle q hq' (by omega)
      · rintro v20 g21 h22 ⟨m, e, rfl, hle2, hex2⟩
        cases e
        rw [nat_wrap1 (by omega)]
        exact ⟨⟨m, i + 1, rfl, by omega, rfl, hle2, hex2⟩, by show l - ((i + 1 : Nat) : Int).toNat < l - (i : Int).toNat; omega⟩
    · have hm : IsMin n rs := ⟨fun q hq => by
        obtain ⟨j, hj, rfl⟩ := List.getElem_of_mem hq
        exact hle j hj (by omega), hex⟩
      rw [minK_eq hm]
      exact k
theorem refCount_call {K : Value → Heap → Prop} {h : Heap} {a : Option Addr} {l c : Nat} {rs : List Pr} {p : Pr} (H : SX prc h a l c rs) (hl : l < 2 ^ 60) (k : ∀ h', Old h.size h h' → K (iv (rs.count p : Nat)) h') :
    CallH Try.prog 14 #[.slice a l c, .agg #[.int .u32 p.1, .int .u32 p.2]] h K := by
  refine call14 ?_
  unfold F14
  have hlen := H.len
  have p1 := pushed h (prc p).toArray 36
  rw [show h.push (.cells #[.int .u32 p.1, .int .u32 p.2] 36) = h.push (.cells (prc p).toArray 36) from rfl]
  generalize h.push (.cells (prc p).toArray 36) = h1 at *
  have o1 := p1.toOld
  refine ⟨fun vs h' => ∃ i : Nat, vs = [iv ((rs.take i).count p : Nat), iv i] ∧ i ≤ l ∧ h' = h1, fun vs _ => (match vs with | [_, .int _ n] => l - n.toNat | _ => 0), ⟨0, rfl, Nat.zero_le _, rfl⟩, ?_⟩
  rintro v2 v3 g4 h5 ⟨i, e, hi, rfl⟩
  cases e
  simp only [asInt_int]
  refine ifB_dec (fun hlt => ?_) (fun hge => ?_)
  · have hi' : i < rs.length := by omega
    have hcl : (rs.take i).count p ≤ l := Nat.le_trans List.count_le_length (by rw [List.length_take]; omega)
    have hsucc : (rs.take (i + 1)).count p = (rs.take i).count p + (if rs[i] = p then 1 else 0) := by
      rw [List.take_succ_eq_append_getElem hi', List.count_append, List.count_singleton]
      simp [beq_iff_eq]
    obtain ⟨ad, rfl, hc0, hc1⟩ := spr_at (H.old o1) hi'
    refine ⟨fun vs h' => vs = [iv ((rs.take (i + 1)).count p : Nat)] ∧ h' = h5, ?_, ?_⟩
    · refine ⟨by omega, hlt, ?_⟩
      simp only [asPtr_some, Int.toNat_natCast]
      refine ldH_mk hc0 (ldH_mk hc1 (ldR p1.new rfl (ldR p1.new rfl ?_)))
      refine eqvH_pr (.inr rfl) (p := rs[i]) (q := p) ?_
      rw [hsucc]
      refine ifB_dec (fun hq => ?_) (fun hq => ?_)
      · rw [if_pos hq, nat_wrap1 (by omega)]
        exact ⟨rfl, by trivial⟩
      · rw [if_neg hq]
        exact ⟨rfl, by trivial⟩
    · rintro v16 g17 h18 ⟨e, rfl⟩
      cases e
      rw [nat_wrap1 (by omega)]
      exact ⟨⟨i + 1, rfl, by omega, rfl⟩, by show l - ((i + 1 : Nat) : Int).toNat < l - (i : Int).toNat; omega⟩
  · have : rs.take i = rs := List.take_of_length_le (by omega)
    rw [this]
    exact k _ o1
/-- What is left without one of them, of the first i. -/
theorem erase_take_succ {rs : List Pr} {i : Nat} (hi : i < rs.length) (p : Pr) : (rs.take (i + 1)).erase p = if rs[i] = p ∧ p ∉ rs.take i then rs.take i else (rs.take i).erase p ++ [rs[i]] := by
  rw [List.take_succ_eq_append_getElem hi]
  by_cases hm : p ∈ rs.take i
  · rw [if_neg (fun h => h.2 hm), List.erase_append_left _ hm]
  · rw [List.erase_append_right _ hm]
    by_cases e : rs[i] = p
    · rw [if_pos ⟨e, hm⟩, e]; simp
    · rw [if_neg (fun h => e h.1), List.erase_of_not_mem hm, List.erase_of_not_mem (by simpa using fun h => e h.symm)]
theorem refWithout_call {K : Value → Heap → Prop} {h : Heap} {a : Option Addr} {l c : Nat} {rs : List Pr} {p : Pr} (H : SX prc h a l c rs) (hl : l < 2 ^ 40) (k : ∀ a' c' h', OwnR h' a' (rs.erase p).length c' (rs.erase p) → (∀ b, blk a' b → h.size ≤ b) → Old h.size h h' → K (.slice a' (rs.erase p).length c') h') :
    CallH Try.prog 16 #[.slice a l c, .agg #[.int .u32 p.1, .int .u32 p.2]] h K := by
  refine call16 ?_
  unfold F16
  have hlen := H.len
  have p1 := pushed h (prc p).toArray 36
  rw [show h.push (.cells #[.int .u32 p.1, .int .u32 p.2] 36) = h.push (.cells (prc p).toArray 36) from rfl]
  generalize h.push (.cells (prc p).toArray 36) = h1 at *
  have o1 := p1.toOld
  have s1 := p1.size
  refine ⟨fun vs h' => ∃ i : Nat, ∃ o c', vs = [.slice o ((rs.take i).erase p).length c', .bool (decide (p ∈ rs.take i)), iv i] ∧ i ≤ l ∧ Old h1.size h1 h' ∧ OwnR h' o ((rs.take i).erase p).length c' ((rs.take i).erase p) ∧ (∀ b, blk o b → h1.size ≤ b),
    fun vs _ => (match vs with | [_, _, .int _ n] => l - n.toNat | _ => 0), ⟨0, none, 0, by simp, Nat.zero_le _, Old.refl _ _, Own.nil _ _ _, fun b hb => by obtain ⟨_, e, _⟩ := hb; cases e⟩, ?_⟩
  rintro v2 v3 v4 g5 h6 ⟨i, o, c', e, hi, o6, own, hb6⟩
  cases e
  simp only [asInt_int]
  refine ifB_dec (fun hlt => ?_) (fun hge => ?_)
  · have hi' : i < rs.length := by omega
    have ok6 : Old h.size h h6 := o1.trans (o6.mono o1.1)
    have hsucc := erase_take_succ hi' p
    have hel : ((rs.take i).erase p).length ≤ l := Nat.le_trans List.erase_sublist.length_le (by rw [List.length_take]; omega)
    have loc6 : h6[h.size]? = some (.cells (prc p).toArray 36) := (o6.2 _ (by omega)).trans p1.new
    obtain ⟨ad, rfl, hc0, hc1⟩ := spr_at (H.old ok6) hi'
    have hmem : p ∈ rs.take (i + 1) ↔ p ∈ rs.take i ∨ rs[i] = p := by
      rw [List.take_succ_eq_append_getElem hi', List.mem_append, List.mem_singleton]
      exact ⟨fun h => h.imp id Eq.symm, fun h => h.imp id Eq.symm⟩
    refine ⟨fun vs h' => ∃ o c', vs = [.slice o ((rs.take (i + 1)).erase p).length c', .bool (decide (p ∈ rs.take (i + 1)))] ∧ Old h1.size h1 h' ∧ OwnR h' o ((rs.take (i + 1)).erase p).length c' ((rs.take (i + 1)).erase p) ∧ (∀ b, blk o b → h1.size ≤ b), ?_, ?_⟩
    · refine ⟨fun vs h' => vs = [.bool (decide (rs[i] = p ∧ p ∉ rs.take i))] ∧ h' = h6, ?_, ?_⟩
      · refine ⟨by omega, hlt, ?_⟩
        simp only [asPtr_some, Int.toNat_natCast]
        refine ldH_mk hc0 (ldH_mk hc1 (ldR loc6 rfl (ldR loc6 rfl ?_)))
        refine eqvH_pr (.inr rfl) (p := rs[i]) (q := p) ?_
        refine ifB_dec (fun hq => ?_) (fun hq => ?_)
        · simp only [asBool_bool]
          refine ⟨?_, by trivial⟩
          by_cases hm : p ∈ rs.take i
          · rw [decide_eq_true hm, decide_eq_false (fun h => h.2 hm)]; rfl
          · rw [decide_eq_false hm, decide_eq_true ⟨hq, hm⟩]; rfl
        · rw [decide_eq_false (fun h => hq h.1)]
          exact ⟨rfl, by trivial⟩
      rintro v18 g19 h20 ⟨e, rfl⟩
      cases e
      simp only [asBool_bool]
      refine ifB_dec (fun hq => ?_) (fun hq => ?_)
      · rw [if_pos hq] at hsucc
        rw [hsucc]
        have he : (rs.take i).erase p = rs.take i := List.erase_of_not_mem hq.2
        rw [he] at own ⊢
        exact ⟨o, c', by rw [decide_eq_true (hmem.2 (.inr hq.1))], o6, own, hb6⟩
      · rw [if_neg hq] at hsucc
        simp only [asSlice_slice]
        refine ⟨by omega, hlt, ?_⟩
        simp only [asPtr_some, Int.toNat_natCast]
        refine ldH_mk hc0 (ldH_mk hc1 ?_)
        refine app_r1 (p := rs[i]) own (by omega) fun a' c2 h30 own30 hb30 fr30 => ?_
        simp only [asSlice_slice]
        have hl1 : ((rs.take (i + 1)).erase p).length = ((rs.take i).erase p).length + 1 := by rw [hsucc]; simp
        refine ⟨a', c2, ?_, ⟨by have := o6.1; have := fr30.1; omega, fun b hb => ?_⟩, ?_, fun b hb => ?_⟩
        · rw [hl1]
          have hd : decide (p ∈ rs.take i) = decide (p ∈ rs.take (i + 1)) := by
            rw [decide_eq_decide, hmem]
            refine ⟨.inl, fun h => h.elim id fun e => ?_⟩
            apply Decidable.byContradiction
            intro hn; exact hq ⟨e, hn⟩
          rw [hd]
        · exact (fr30.2 b (by have := o6.1; omega) (fun h => by have := hb6 b h; omega)).trans (o6.2 b hb)
        · rw [hl1, hsucc]; exact own30
        · rcases hb30 b hb with h2 | h2
          · exact hb6 b h2
          · have := o6.1; omega
    · rintro v34 v35 g36 h37 ⟨o2, c2, e, o37, own37, hb37⟩
      cases e
      rw [nat_wrap1 (by omega)]
      exact ⟨⟨i + 1, o2, c2, rfl, by omega, o37, own37, hb37⟩, by show l - ((i + 1 : Nat) : Int).toNat < l - (i : Int).toNat; omega⟩
  · have e : rs.take i = rs := List.take_of_length_le (by omega)
    rw [e] at own ⊢
    simp only [asSlice_slice]
    exact k o c' h6 own (fun b hb => by have := hb6 b hb; omega) (o1.trans (o6.mono o1.1))

/-- What is legal, as the document has it. -/
def doR (rs : List Pr) (c a : C3) : Option (List Pr) :=
  if fitsB c a then
    if a.o = 0 then some (rs ++ [(c.k, c.v)])
    else if a.o = 1 then some rs
    else if a.o = 3 then (if rs = [] then some rs else none)
    else if rs.count (a.k, a.v) = 0 ∨ a.k ≠ minK rs then none
    else if c.o = 1 then some (rs.erase (a.k, a.v)) else some rs
  else none
theorem doR_len' (rs : List Pr) (c a : C3) : ((doR rs c a).getD rs).length ≤ rs.length + 1 := by
  unfold doR
  split
  · split
    · simp
    · split
      · simp
      · split
        · split <;> simp
        · split
          · simp
          · split
            · simp only [Option.getD_some]
              have := (List.erase_sublist (a := (a.k, a.v)) (l := rs)).length_le
              omega
            · simp
  · simp
/-- The program's bag does what the document's does. -/
theorem do_perm {ps rs : List Pr} (hS : Srt ps) (hp : ps.Perm rs) (c a : C3) : (doP ps c a = none ∧ doR rs c a = none) ∨ ∃ qs ts, doP ps c a = some qs ∧ doR rs c a = some ts ∧ Srt qs ∧ qs.Perm ts := by
  unfold doP doR
  split
  · split
    · exact .inr ⟨_, _, rfl, rfl, insP_srt hS, ((insP_perm _ _).trans (List.Perm.cons _ hp)).trans (List.perm_append_singleton _ _).symm⟩
    · split
      · exact .inr ⟨_, _, rfl, rfl, hS, hp⟩
      · split
        · by_cases e : ps = []
          · subst e
            have : rs = [] := hp.nil_eq.symm
            subst this
            exact .inr ⟨[], [], by simp, by simp, List.Pairwise.nil, List.Perm.refl _⟩
          · have e2 : rs ≠ [] := fun h => e (by rw [h] at hp; exact hp.eq_nil)
            rw [if_neg e, if_neg e2]
            exact .inl ⟨rfl, rfl⟩
        · have hmem : (a.k, a.v) ∈ minsP ps ↔ ¬ (rs.count (a.k, a.v) = 0 ∨ a.k ≠ minK rs) := by
            rw [← minK_perm hS hp]
            cases hps : ps with
            | nil =>
              have : rs = [] := by rw [hps] at hp; exact hp.nil_eq.symm
              rw [this]; simp [minsP]
            | cons x r =>
              rw [← hps, minsP_mem hS hps]
              have hl : leastP ps = x.1 := by rw [hps]; rfl
              rw [hl, hp.mem_iff, ← List.count_pos_iff]
              simp only
              omega
          by_cases hin : (a.k, a.v) ∈ minsP ps
          · rw [if_pos hin, if_neg (hmem.1 hin)]
            split
            · exact .inr ⟨_, _, rfl, rfl, erase_srt hS _, hp.erase _⟩
            · exact .inr ⟨_, _, rfl, rfl, hS, hp⟩
          · rw [if_neg hin, if_pos (Decidable.not_not.1 fun h => hin (hmem.2 h))]
            exact .inl ⟨rfl, rfl⟩
  · exact .inl ⟨rfl, rfl⟩
theorem refDo_call {K : Value → Heap → Prop} {h : Heap} {a : Option Addr} {l c : Nat} {rs : List Pr} {c3 a3 : C3} (H : OwnR h a l c rs) (hl : l < 2 ^ 39)
    (k : ∀ a' c' h', OwnR h' a' ((doR rs c3 a3).getD rs).length c' ((doR rs c3 a3).getD rs) → (∀ b, blk a' b → blk a b ∨ h.size ≤ b) → Old h.size h h' → K (.tuple #[.slice a' ((doR rs c3 a3).getD rs).length c', .bool (doR rs c3 a3).isSome]) h') :
    CallH Try.prog 17 #[.slice a l c, .agg c3.cells.toArray, .agg a3.cells.toArray] h K := by
  refine call17 ?_
  unfold F17
  have hsx := ownR_sx H
  have hlen := hsx.len
  have p1 := pushed h c3.cells.toArray 40
  rw [show h.push (.cells #[.int .i64 c3.o, .int .u32 c3.k, .int .u32 c3.v] 40) = h.push (.cells c3.cells.toArray 40) from rfl]
  generalize h.push (.cells c3.cells.toArray 40) = h1 at *
  have s1 := p1.size
  have p2 := pushed h1 a3.cells.toArray 42
  rw [show h1.push (.cells #[.int .i64 a3.o, .int .u32 a3.k, .int .u32 a3.v] 42) = h1.push (.cells a3.cells.toArray 42) from rfl]
  generalize h1.push (.cells a3.cells.toArray 42) = h2 at *
  have s2 := p2.size
  have e2 : h2[h.size]? = some (.cells c3.cells.toArray 40) := (p2.old _ (by omega)).trans p1.new
  have o2 : Old h.size h h2 := p1.toOld.trans (p2.toOld.mono (by omega))
  refine ldR e2 rfl (ldR e2 rfl (ldR e2 rfl (ldR p2.new rfl (ldR p2.new rfl (ldR p2.new rfl ?_)))))
  refine callV_fn (refFits_call (c := c3) (a := a3) fun h7 o7 => ?_)
  simp only [asBool_bool]
  have ok7 : Old h.size h h7 := o2.trans (o7.mono o2.1)
  have keep : ∀ h', Old h.size h h' → OwnR h' a l c rs := fun h' o => H.keep fun ad e => o.2 _ (H.lt ad e)
  have dflt : doR rs c3 a3 = none → ∀ h', Old h.size h h' → K (.tuple #[.slice a l c, .bool false]) h' := by
    intro e h' o
    have := k a c h' (by rw [e]; simp only [Option.getD_none]; rw [hlen]; exact keep h' o) (fun b hb => .inl hb) o
    rw [e] at this; simp only [Option.getD_none, hlen] at this; exact this
  have same : doR rs c3 a3 = some rs → ∀ h', Old h.size h h' → K (.tuple #[.slice a l c, .bool true]) h' := by
    intro e h' o
    have := k a c h' (by rw [e]; simp only [Option.getD_some]; rw [hlen]; exact keep h' o) (fun b hb => .inl hb) o
    rw [e] at this; simp only [Option.getD_some, hlen] at this; exact this
  refine ifB_mk (fun hf => dflt ?_ h7 ok7) (fun hf => ?_)
  · unfold doR
    rw [if_neg (by revert hf; cases fitsB c3 a3 <;> simp)]
  have hfit : fitsB c3 a3 = true := by revert hf; cases fitsB c3 a3 <;> simp
  have hdo : doR rs c3 a3 = if a3.o = 0 then some (rs ++ [(c3.k, c3.v)]) else if a3.o = 1 then some rs else if a3.o = 3 then (if rs = [] then some rs else none) else if rs.count (a3.k, a3.v) = 0 ∨ a3.k ≠ minK rs then none else if c3.o = 1 then some (rs.erase (a3.k, a3.v)) else some rs := by
    unfold doR; rw [if_pos hfit]
  have c7 := (o7.2 _ (by omega)).trans e2
  have a7 := (o7.2 _ (by omega)).trans p2.new
  refine ldR a7 rfl ?_
  simp only [asInt_int]
  refine ldR a7 rfl ?_
  simp only [asInt_int]
  have p8 := pushed h7 #[.int .u32 0, .int .u32 0] 36
  generalize h7.push (.cells #[.int .u32 0, .int .u32 0] 36) = h8 at *
  have s8 := p8.size
  refine stR p8.new rfl trivial fun h13 w13 => ?_
  refine stR w13.new rfl trivial fun h14 w14' => ?_
  have w14 := w13.trans w14'
  have o14 : Old h7.size h7 h14 := w14.toOld p8.toOld (Nat.le_refl _)
  have ok14 : Old h.size h h14 := ok7.trans (o14.mono ok7.1)
  have h7s := ok7.1
  have h7s' := o7.1
  have c14 := (o14.2 _ (by omega)).trans c7
  have a14 := (o14.2 _ (by omega)).trans a7
  have loc14 : h14[h7.size]? = some (.cells (prc (a3.k, a3.v)).toArray 36) := w14.new
  refine callV_fn (refLeast_call (hsx.old ok14) (by omega) ?_)
  simp only [asTup_tuple]
  refine elemH_mk rfl ?_
  simp only [asInt_int]
  refine elemH_mk rfl ?_
  simp only [asBool_bool]
  refine ldR a14 rfl ?_
  simp only [asInt_int]
  refine ifB_mk (fun h0 => ?_) (fun h0 => ?_)
  · rw [if_pos (by simpa using h0)] at hdo
    refine ldR c14 rfl ?_
    simp only [asInt_int]
    refine ldR c14 rfl ?_
    simp only [asInt_int]
    have nilo : ∀ h', OwnR h' none 0 0 [] := fun h' => Own.nil _ _ _
    have nob : ∀ b, ¬ blk none b := fun b hb => by obtain ⟨_, e, _⟩ := hb; cases e
    have fin : ∀ a' c' h', OwnR h' a' (l + 1) c' (rs ++ [(c3.k, c3.v)]) → (∀ b, blk a' b → h.size ≤ b) → Old h.size h h' → K (.tuple #[.slice a' (l + 1) c', .bool true]) h' := by
      intro a' c' h' own hb o
      have e1 : (rs ++ [(c3.k, c3.v)]).length = l + 1 := by rw [List.length_append, hlen]; rfl
      have := k a' c' h' (by rw [hdo]; simp only [Option.getD_some]; rw [e1]; exact own) (fun b x => .inr (hb b x)) o
      rw [hdo] at this; simp only [Option.getD_some, e1] at this; exact this
    have hs7 : h7.size < h14.size := (Array.getElem?_eq_some_iff.1 loc14).1
    refine ⟨?_, ?_⟩
    · refine app_rr (ys := rs) (n := l) (nilo _) (hsx.old ok14).s hlen (by omega) fun a' c' h30 own30 hb30 fr30 => ?_
      simp only [asSlice_slice, Nat.zero_add, List.nil_append] at own30 ⊢
      have o30 : Old h14.size h14 h30 := fr30.old fun b _ => nob b
      have c30 := (o30.2 _ (by omega)).trans c14
      refine ⟨cellR c30 rfl, cellR c30 rfl, ?_⟩
      have hb30' : ∀ b, blk a' b → h14.size ≤ b := fun b hb => (hb30 b hb).resolve_left (nob b)
      refine app_r1 (p := (c3.k, c3.v)) own30 (by omega) fun a2 c2 h35 own35 hb35 fr35 => ?_
      simp only [asSlice_slice]
      have := ok14.1
      have := o30.1
      refine fin a2 c2 h35 own35 (fun b hb => ?_) ⟨by have := fr35.1; omega, fun b hb => ?_⟩
      · rcases hb35 b hb with h2 | h2
        · have := hb30' b h2; omega
        · omega
      · exact (fr35.2 b (by omega) (fun h2 => by have := hb30' b h2; omega)).trans ((o30.2 b (by omega)).trans (ok14.2 b hb))
    · have p16 := pushed h14 (prc (c3.k, c3.v)).toArray 36
      rw [show h14.push (.cells #[.int .u32 c3.k, .int .u32 c3.v] 36) = h14.push (.cells (prc (c3.k, c3.v)).toArray 36) from rfl]
      generalize h14.push (.cells (prc (c3.k, c3.v)).toArray 36) = h16 at *
      have o16 : Old h.size h h16 := ok14.trans (p16.toOld.mono ok14.1)
      have s16 := p16.size
      refine app_rr (ys := rs) (n := l) (nilo _) (hsx.old o16).s hlen (by omega) fun a' c' h40 own40 hb40 fr40 => ?_
      simp only [asSlice_slice, Nat.zero_add, List.nil_append] at own40 ⊢
      have o40 : Old h16.size h16 h40 := fr40.old fun b _ => nob b
      have c40 := (o40.2 _ (by omega)).trans ((p16.old _ (by omega)).trans c14)
      have l40 := (o40.2 _ (by omega)).trans p16.new
      refine ⟨cellR c40 rfl, cellR c40 rfl, ?_⟩
      have hb40' : ∀ b, blk a' b → h16.size ≤ b := fun b hb => (hb40 b hb).resolve_left (nob b)
      refine app_rr (ys := [(c3.k, c3.v)]) own40 (sees_one l40) rfl (by omega) fun a2 c2 h45 own45 hb45 fr45 => ?_
      simp only [asSlice_slice]
      have := o16.1
      have := o40.1
      refine fin a2 c2 h45 own45 (fun b hb => ?_) ⟨by have := fr45.1; omega, fun b hb => ?_⟩
      · rcases hb45 b hb with h2 | h2
        · have := hb40' b h2; omega
        · omega
      · exact (fr45.2 b (by omega) (fun h2 => by have := hb40' b h2; omega)).trans ((o40.2 b (by omega)).trans (o16.2 b hb))
  rw [if_neg (by simpa using h0)] at hdo
  refine ifB_mk (fun h1' => ?_) (fun h1' => ?_)
  · rw [if_pos (by simpa using h1')] at hdo
    exact same hdo h14 ok14
  rw [if_neg (by simpa using h1')] at hdo
  refine ifB_mk (fun h3 => ?_) (fun h3 => ?_)
  · rw [if_pos (by simpa using h3)] at hdo
    by_cases he : rs = []
    · rw [if_pos he] at hdo
      have := same hdo h14 ok14
      rw [he]; exact this
    · rw [if_neg he] at hdo
      have := dflt hdo h14 ok14
      have hemp : rs.isEmpty = false := by cases rs <;> first | exact absurd rfl he | rfl
      rw [hemp]
      exact this
  rw [if_neg (by simpa using h3)] at hdo
  refine ⟨fun vs h' => vs = [.bool (decide (rs.count (a3.k, a3.v) = 0 ∨ a3.k ≠ minK rs))] ∧ Old h14.size h14 h', ?_, ?_⟩
  · refine ldR loc14 rfl (ldR loc14 rfl ?_)
    refine callV_fn (refCount_call (p := (a3.k, a3.v)) (hsx.old ok14) (by omega) fun h53 o53 => ?_)
    simp only [asInt_int]
    refine ifB_mk (fun hc => ?_) (fun hc => ?_)
    · have : rs.count (a3.k, a3.v) = 0 := by
        have : ((rs.count (a3.k, a3.v) : Nat) : Int) = 0 := by simpa using hc
        omega
      exact ⟨by rw [decide_eq_true (.inl this)], o53⟩
    · have hc' : rs.count (a3.k, a3.v) ≠ 0 := by
        have : ((rs.count (a3.k, a3.v) : Nat) : Int) ≠ 0 := by simpa using hc
        omega
      have loc53 := (o53.2 _ ((Array.getElem?_eq_some_iff.1 loc14).1)).trans loc14
      refine ldR loc53 rfl ?_
      simp only [asInt_int]
      refine ⟨?_, o53⟩
      by_cases e : a3.k = minK rs
      · rw [decide_eq_false (fun h => h.elim hc' (fun h => h e)), e]; simp
      · rw [decide_eq_true (.inr e)]
        rw [bne_iff_ne.2 e]
  rintro v57 g58 h59 ⟨e, o59⟩
  cases e
  simp only [asBool_bool]
  have ok59 : Old h.size h h59 := ok14.trans (o59.mono ok14.1)
  refine ifB_dec (fun hq => ?_) (fun hq => ?_)
  · rw [if_pos hq] at hdo
    exact dflt hdo h59 ok59
  rw [if_neg hq] at hdo
  have c59 := (o59.2 _ (by have := o14.1; omega)).trans c14
  refine ldR c59 rfl ?_
  simp only [asInt_int]
  refine ifB_mk (fun hc1 => ?_) (fun hc1 => ?_)
  · rw [if_pos (by simpa using hc1)] at hdo
    have loc59 := (o59.2 _ ((Array.getElem?_eq_some_iff.1 loc14).1)).trans loc14
    refine ldR loc59 rfl (ldR loc59 rfl ?_)
    refine callV_fn (refWithout_call (p := (a3.k, a3.v)) (hsx.old ok59) (by omega) fun a' c' h66 own66 hb66 o66 => ?_)
    simp only [asSlice_slice]
    have := k a' c' h66 (by rw [hdo]; exact own66) (fun b hb => .inr (by have := hb66 b hb; have := ok59.1; omega)) (ok59.trans (o66.mono ok59.1))
    rw [hdo] at this; exact this
  · rw [if_neg (by simpa using hc1)] at hdo
    exact same hdo h59 ok59
end Go.Proofs.Ytlncjcbofgjcfaa
end
section
/- The formulas of functions, printed by a program of mine. -/
set_option linter.unusedVariables false
namespace Go.Proofs.Ytlncjcbofgjcfaa








/-- jostle/seqs.Only[int] -/
def F83 (K : Value → Heap → Prop) (h : Heap) (x0 : Value) (x1 : Value) : Prop :=
  (oneC x0 (oneC x1 (exI (fun I0 => ((ldH (Array.push (Array.push h (.cells #[x0] 133)) (.cells #[x1] 135)) ⟨h.size, 0, none⟩ (fun v1 => (asFnNil v1 (fun b2 => (ifB b2 (I0 [(.bool true)] (Array.push (Array.push h (.cells #[x0] 133)) (.cells #[x1] 135))) (ldH (Array.push (Array.push h (.cells #[x0] 133)) (.cells #[x1] 135)) ⟨(Array.push h (.cells #[x0] 133)).size, 0, none⟩ (fun v3 => (asFnNil v3 (fun b4 => (I0 [(.bool b4)] (Array.push (Array.push h (.cells #[x0] 133)) (.cells #[x1] 135)))))))))))) ∧ (∀ v5 : Value, (∀ g6 : Env, (∀ h7 : Heap, ((I0 [v5] h7) → (asBool v5 (fun b8 => (ifB b8 (K (.func (.func 98) #[] #[]) h7) (K (.func (.func 99) #[] #[(.pointer (some ⟨h.size, 0, none⟩)), (.pointer (some ⟨(Array.push h (.cells #[x0] 133)).size, 0, none⟩))]) h7)))))))))))))
theorem vc83 (K : Value → Heap → Prop) (h : Heap) (x0 : Value) (x1 : Value) : vc Try.prog (bodyOf Try.f83) (retQ Try.prog Try.f83.results.toList (hasRange (bodyOf Try.f83)) h.size K) (envL [x0, x1]) h = F83 K h x0 x1 := by kernel_rfl
theorem ok83 : fnOk Try.prog Try.f83 2 = true := by kernel_rfl
theorem call83 {K : Value → Heap → Prop} {h : Heap} {x0 : Value} {x1 : Value} (H : F83 K h x0 x1) : CallH Try.prog 83 #[x0, x1] h K :=
  callH_mk Try.func83 ok83 (Eq.mp (vc83 K h x0 x1).symm H)



/-- jostle/seqs.Some[int] -/
def F78 (K : Value → Heap → Prop) (h : Heap) (x0 : Value) (x1 : Value) : Prop :=
  (callV Try.prog (.func (.func 83) #[] #[]) #[x0, x1] (Array.push h (.cells #[(.bool false)] 4)) (fun v0 h1 => (callV Try.prog (.func (.func 96) #[] #[]) #[v0, (.int .i64 1)] h1 (fun v2 h3 => (rangeH Try.prog v2 1 h3 (fun I4 vs5 h6 => (stH h6 ⟨h.size, 0, none⟩ (.bool true) (fun h7 => (I4 .ret h7)))) (fun h8 => (stH h8 ⟨h.size, 0, none⟩ (.bool false) (fun h9 => (ldH h9 ⟨h.size, 0, none⟩ (fun v10 => (∀ h11 : Heap, ((SameD h.size h9 h11) → (K v10 h11)))))))) [(.ret, (fun h12 => (ldH h12 ⟨h.size, 0, none⟩ (fun v13 => (∀ h14 : Heap, ((SameD h.size h12 h14) → (K v13 h14)))))))])))))
theorem vc78 (K : Value → Heap → Prop) (h : Heap) (x0 : Value) (x1 : Value) : vc Try.prog (bodyOf Try.f78) (retQ Try.prog Try.f78.results.toList (hasRange (bodyOf Try.f78)) h.size K) (envL [x0, x1]) h = F78 K h x0 x1 := by kernel_rfl
theorem ok78 : fnOk Try.prog Try.f78 2 = true := by kernel_rfl
theorem call78 {K : Value → Heap → Prop} {h : Heap} {x0 : Value} {x1 : Value} (H : F78 K h x0 x1) : CallH Try.prog 78 #[x0, x1] h K :=
  callH_mk Try.func78 ok78 (Eq.mp (vc78 K h x0 x1).symm H)







/-- jostle/seqs.Only[int]$1 -/
def F99 (K : Value → Heap → Prop) (h : Heap) (x0 : Value) (c0 : Value) (c1 : Value) : Prop :=
  (oneC x0 (asPtr c0 (fun a0 => (ldH (Array.push h (.cells #[x0] 135)) a0 (fun v1 => (rangeH Try.prog v1 1 (Array.push h (.cells #[x0] 135)) (fun I2 vs3 h4 => (asInt .i64 (vs3.getD 0 (.tuple #[])) (fun n5 => (exI (fun I6 => ((asPtr c1 (fun a7 => (ldH h4 a7 (fun v8 => (callV Try.prog v8 #[(.int .i64 n5)] h4 (fun v9 h10 => (asBool v9 (fun b11 => (ifB b11 (ldH h10 ⟨h.size, 0, none⟩ (fun v12 => (callV Try.prog v12 #[(.int .i64 n5)] h10 (fun v13 h14 => (asBool v13 (fun b15 => (I6 [(.bool (!b15))] h14))))))) (I6 [(.bool false)] h10)))))))))) ∧ (∀ v16 : Value, (∀ g17 : Env, (∀ h18 : Heap, ((I6 [v16] h18) → (asBool v16 (fun b19 => (ifB b19 (I2 .ret h18) (I2 .normal h18)))))))))))))) (fun h20 => (∀ h21 : Heap, ((SameD h.size h20 h21) → (K (.tuple #[]) h21)))) [(.ret, (fun h22 => (∀ h23 : Heap, ((SameD h.size h22 h23) → (K (.tuple #[]) h23)))))]))))))
theorem vc99 (K : Value → Heap → Prop) (h : Heap) (x0 : Value) (c0 : Value) (c1 : Value) : vc Try.prog (bodyOf Try.f99) (retQ Try.prog Try.f99.results.toList (hasRange (bodyOf Try.f99)) h.size K) (envL [x0, c0, c1]) h = F99 K h x0 c0 c1 := by kernel_rfl
theorem ok99 : fnOk Try.prog Try.f99 3 = true := by kernel_rfl
theorem call99 {K : Value → Heap → Prop} {h : Heap} {x0 : Value} {c0 : Value} {c1 : Value} (H : F99 K h x0 c0 c1) : CallH Try.prog 99 #[x0, c0, c1] h K :=
  callH_mk Try.func99 ok99 (Eq.mp (vc99 K h x0 c0 c1).symm H)


end Go.Proofs.Ytlncjcbofgjcfaa
end
section
/- Sequences of numbers as lists; a list's things, onward and backward. -/
set_option linter.unusedSimpArgs false
set_option linter.unusedVariables false
set_option maxRecDepth 20000
namespace Go.Proofs.Ytlncjcbofgjcfaa

theorem SeqH.congr {P : Program} {g : Value} {n : Nat} {xs ys : Nat → Array Value} {Ev : Heap → Prop} (H : SeqH P g n xs Ev) (e : ∀ k, k < n → xs k = ys k) : SeqH P g n ys Ev := by
  intro yf y1 y2 h N I X hN hev hok hy
  exact H yf y1 y2 h N I X hN hev hok fun M k h' hk h1 h2 h3 h4 => by rw [e k hk]; exact hy M k h' hk h1 h2 h3 h4

abbrev seqOf (L : List Int) (k : Nat) : Array Value := #[iv (L.getD k 0)]
/-- From h on, g is the sequence of a list's numbers. -/
def SeqL (g : Value) (L : List Int) (h : Heap) : Prop :=
  ∃ f fst cap Ev, g = .func (.func f) fst cap ∧ SeqH Try.prog g L.length (seqOf L) Ev ∧ Ev h ∧ ∀ h h', Old h.size h h' → Ev h → Ev h'
theorem SeqL.old {g : Value} {L : List Int} {h h' : Heap} (H : SeqL g L h) (ho : Old h.size h h') : SeqL g L h' := by
  obtain ⟨f, fst, cap, Ev, e, hs, he, hst⟩ := H
  exact ⟨f, fst, cap, Ev, e, hs, hst _ _ ho he, hst⟩
theorem SeqAt.toL {g : Value} {n : Nat} {xs : Nat → Int} {L : List Int} {h : Heap} (H : SeqAt g n xs h) (hn : L.length = n) (e : ∀ k, k < n → xs k = L.getD k 0) : SeqL g L h := by
  obtain ⟨f, fst, cap, Ev, e1, hs, he, hst⟩ := H
  subst hn
  exact ⟨f, fst, cap, Ev, e1, hs.congr fun k hk => by rw [e k hk], he, hst⟩
theorem SeqL.at {g : Value} {L : List Int} {h : Heap} (H : SeqL g L h) : SeqAt g L.length (fun k => L.getD k 0) h := H
theorem range_getD (L : List Int) : (List.range L.length).map (fun k => L.getD k 0) = L := by
  apply List.ext_getElem (by simp)
  intro i h1 h2
  simp at h1
  simp [h1]
theorem range_take (L : List Int) (m : Nat) : (List.range (min L.length m)).map (fun k => L.getD k 0) = L.take m := by
  apply List.ext_getElem (by simp; omega)
  intro i h1 h2
  simp at h1
  simp [show i < L.length by omega]

theorem firstL_call {K : Value → Heap → Prop} {h : Heap} {g : Value} {L : List Int} {x : Int} (H : SeqL g L h) (hx : x ≤ 9223372036854775807) (k : ∀ g' h', SeqL g' (L.take x.toNat) h' → Old h.size h h' → K g' h') :
    CallH Try.prog 96 #[g, iv x] h K :=
  first_call H.at hx fun g' h' h1 h2 => k g' h' (h1.toL (by simp; omega) fun j hj => by simp [show j < x.toNat by omega]) h2

/-- Backward: places and things. -/
abbrev backOf (xs : List Int) (k : Nat) : Array Value := #[iv ((xs.length - 1 - k : Nat) : Int), iv (xs.getD (xs.length - 1 - k) 0)]
end Go.Proofs.Ytlncjcbofgjcfaa
end
