/- The formulas of functions, printed by a program of mine. -/
import Derived.Test.YtgladmaagpcffaaVq
import Derived.Test.YtgladmaagpcffaaProg
set_option linter.unusedVariables false
namespace Go.Proofs.Ytgladmaagpcffaa
/-- jostle/jostlelaw03.SeqsAgain -/
def F7 (K : Value → Heap → Prop) (h : Heap) (x0a : Option Addr) (x0l x0c : Nat) (x1 : Int) : Prop :=
  (ldH (Array.push h (.cells #[(.slice x0a x0l x0c)] 23)) ⟨h.size, 0, none⟩ (fun v0 => (asSlice v0 (fun o1 k2 k3 => (ifB (decide (((k2 : Nat) : Int) > 2000)) (callV Try.prog (.func (.func 19) #[] #[]) #[] (Array.push h (.cells #[(.slice x0a x0l x0c)] 23)) (fun v4 h5 => (asBool v4 (fun b6 => (K (.bool b6) h5))))) (ldH (Array.push h (.cells #[(.slice x0a x0l x0c)] 23)) ⟨h.size, 0, none⟩ (fun v7 => (asSlice v7 (fun o8 k9 k10 => (callV Try.prog (.func (.func 36) #[] #[]) #[(.slice o8 k9 k10)] (Array.push h (.cells #[(.slice x0a x0l x0c)] 23)) (fun v11 h12 => (ldH h12 ⟨h.size, 0, none⟩ (fun v13 => (asSlice v13 (fun o14 k15 k16 => (minmax (fun n17 n18 => (min2I n17 n18)) Try.prog 3 [(.int .i64 x1), (.int .i64 ((k15 : Nat) : Int))] (fun n19 => (minmax (fun n20 n21 => (max2I n20 n21)) Try.prog 3 [(.int .i64 0), (.int .i64 n19)] (fun n22 => (callV Try.prog (.func (.func 23) #[] #[]) #[v11, (.int .i64 x1)] h12 (fun v23 h24 => (callV Try.prog (.func (.func 21) #[] #[]) #[v23] h24 (fun v25 h26 => (asSlice v25 (fun o27 k28 k29 => (exI (fun I30 => ((ldH h26 ⟨h.size, 0, none⟩ (fun v31 => (asSlice v31 (fun o32 k33 k34 => (((0 : Int) ≤ n22) ∧ (((n22 : Int) ≤ ((k34 : Nat) : Int)) ∧ (callV Try.prog (.func (.func 20) #[] #[]) #[(.slice o27 k28 k29), (.slice (subA o32 0 k34 1) (n22.toNat - 0) (k34 - 0))] h26 (fun v35 h36 => (asBool v35 (fun b37 => (ifB (!b37) (I30 [(.bool true), (.bool true)] h36) (ldH h36 ⟨h.size, 0, none⟩ (fun v38 => (asSlice v38 (fun o39 k40 k41 => (callV Try.prog (.func (.func 21) #[] #[]) #[v11] h36 (fun v42 h43 => (asSlice v42 (fun o44 k45 k46 => (((cellAt h43 ⟨h.size, 0, none⟩) = (some v38)) ∧ (callV Try.prog (.func (.func 20) #[] #[]) #[(.slice o44 k45 k46), (.slice o39 k40 k41)] h43 (fun v47 h48 => (asBool v47 (fun b49 => (ifB (!b49) (I30 [(.bool (!b49)), (.bool true)] h48) (callV Try.prog (.func (.func 23) #[] #[]) #[v11, (.int .i64 x1)] h48 (fun v50 h51 => (callV Try.prog (.func (.func 21) #[] #[]) #[v50] h51 (fun v52 h53 => (asSlice v52 (fun o54 k55 k56 => (callV Try.prog (.func (.func 20) #[] #[]) #[(.slice o54 k55 k56), (.slice o27 k28 k29)] h53 (fun v57 h58 => (asBool v57 (fun b59 => (I30 [(.bool (!b49)), (.bool (!b59))] h58)))))))))))))))))))))))))))))))))))) ∧ (∀ v60 : Value, (∀ v61 : Value, (∀ g62 : Env, (∀ h63 : Heap, ((I30 [v60, v61] h63) → (asBool v61 (fun b64 => (ifB b64 (K (.bool false) h63) (ldH h63 ⟨h.size, 0, none⟩ (fun v65 => (asSlice v65 (fun o66 k67 k68 => (stH (Array.push (Array.push h63 (.cells #[(.int .i64 0)] 3)) (.cells #[(.bool false)] 4)) ⟨h63.size, 0, none⟩ (.int .i64 ((k67 : Nat) : Int)) (fun h69 => (stH h69 ⟨(Array.push h63 (.cells #[(.int .i64 0)] 3)).size, 0, none⟩ (.bool true) (fun h70 => (ldH h70 ⟨h.size, 0, none⟩ (fun v71 => (asSlice v71 (fun o72 k73 k74 => (callV Try.prog (.func (.func 37) #[] #[]) #[(.slice o72 k73 k74)] h70 (fun v75 h76 => (callV Try.prog v75 #[(.func (.func 38) #[] #[(.pointer (some ⟨h63.size, 0, none⟩)), (.pointer (some ⟨(Array.push h63 (.cells #[(.int .i64 0)] 3)).size, 0, none⟩)), (.pointer (some ⟨h.size, 0, none⟩))])] h76 (fun v77 h78 => (ldH h78 ⟨(Array.push h63 (.cells #[(.int .i64 0)] 3)).size, 0, none⟩ (fun v79 => (asBool v79 (fun b80 => (ifB b80 (ldH h78 ⟨h63.size, 0, none⟩ (fun v81 => (asInt .i64 v81 (fun n82 => (ifB (n82 == 0) (callV Try.prog (.func (.func 19) #[] #[]) #[] h78 (fun v83 h84 => (asBool v83 (fun b85 => (K (.bool b85) h84))))) (K (.bool false) h78)))))) (K (.bool false) h78))))))))))))))))))))))))))))))))))))))))))))))))))))))))))
theorem vc7 (K : Value → Heap → Prop) (h : Heap) (x0a : Option Addr) (x0l x0c : Nat) (x1 : Int) : vc Try.prog (bodyOf Try.f7) (retQ Try.prog Try.f7.results.toList (hasRange (bodyOf Try.f7)) h.size K) (envL [(.slice x0a x0l x0c), (.int .i64 x1)]) h = F7 K h x0a x0l x0c x1 := by kernel_rfl
theorem ok7 : fnOk Try.prog Try.f7 2 = true := by kernel_rfl
theorem call7 {K : Value → Heap → Prop} {h : Heap} {x0a : Option Addr} {x0l x0c : Nat} {x1 : Int} (H : F7 K h x0a x0l x0c x1) : CallH Try.prog 7 #[(.slice x0a x0l x0c), (.int .i64 x1)] h K :=
  callH_mk Try.func7 ok7 (Eq.mp (vc7 K h x0a x0l x0c x1).symm H)

/-- jostle/seqs.Of[int] -/
def F36 (K : Value → Heap → Prop) (h : Heap) (x0a : Option Addr) (x0l x0c : Nat) : Prop :=
  (K (.func (.func 88) #[] #[(.pointer (some ⟨h.size, 0, none⟩))]) (Array.push h (.cells #[(.slice x0a x0l x0c)] 23)))
theorem vc36 (K : Value → Heap → Prop) (h : Heap) (x0a : Option Addr) (x0l x0c : Nat) : vc Try.prog (bodyOf Try.f36) (retQ Try.prog Try.f36.results.toList (hasRange (bodyOf Try.f36)) h.size K) (envL [(.slice x0a x0l x0c)]) h = F36 K h x0a x0l x0c := by kernel_rfl
theorem ok36 : fnOk Try.prog Try.f36 1 = true := by kernel_rfl
theorem call36 {K : Value → Heap → Prop} {h : Heap} {x0a : Option Addr} {x0l x0c : Nat} (H : F36 K h x0a x0l x0c) : CallH Try.prog 36 #[(.slice x0a x0l x0c)] h K :=
  callH_mk Try.func36 ok36 (Eq.mp (vc36 K h x0a x0l x0c).symm H)

/-- jostle/seqs.Back[int] -/
def F37 (K : Value → Heap → Prop) (h : Heap) (x0a : Option Addr) (x0l x0c : Nat) : Prop :=
  (K (.func (.func 89) #[] #[(.pointer (some ⟨h.size, 0, none⟩))]) (Array.push h (.cells #[(.slice x0a x0l x0c)] 23)))
theorem vc37 (K : Value → Heap → Prop) (h : Heap) (x0a : Option Addr) (x0l x0c : Nat) : vc Try.prog (bodyOf Try.f37) (retQ Try.prog Try.f37.results.toList (hasRange (bodyOf Try.f37)) h.size K) (envL [(.slice x0a x0l x0c)]) h = F37 K h x0a x0l x0c := by kernel_rfl
theorem ok37 : fnOk Try.prog Try.f37 1 = true := by kernel_rfl
theorem call37 {K : Value → Heap → Prop} {h : Heap} {x0a : Option Addr} {x0l x0c : Nat} (H : F37 K h x0a x0l x0c) : CallH Try.prog 37 #[(.slice x0a x0l x0c)] h K :=
  callH_mk Try.func37 ok37 (Eq.mp (vc37 K h x0a x0l x0c).symm H)

/-- jostle/jostlelaw03.SeqsAgain$1 -/
def F38 (K : Value → Heap → Prop) (h : Heap) (x0 : Int) (x1 : Int) (c0 : Value) (c1 : Value) (c2 : Value) : Prop :=
  (asPtr c0 (fun a0 => (ldH h a0 (fun v1 => (asInt .i64 v1 (fun n2 => (asPtr c0 (fun a3 => (stH h a3 (.int .i64 (IntKind.wrap .i64 (n2 - 1))) (fun h4 => (asPtr c1 (fun a5 => (ldH h4 a5 (fun v6 => (asBool v6 (fun b7 => (ifB b7 (asPtr c0 (fun a8 => (ldH h4 a8 (fun v9 => (asInt .i64 v9 (fun n10 => (ifB (x0 == n10) (asPtr c0 (fun a11 => (ldH h4 a11 (fun v12 => (asInt .i64 v12 (fun n13 => (ifB (decide (n13 ≥ 0)) (asPtr c2 (fun a14 => (ldH h4 a14 (fun v15 => (asSlice v15 (fun o16 k17 k18 => (asPtr c0 (fun a19 => (ldH h4 a19 (fun v20 => (asInt .i64 v20 (fun n21 => (minmax (fun n22 n23 => (max2I n22 n23)) Try.prog 3 [(.int .i64 0), (.int .i64 n21)] (fun n24 => (((0 : Int) ≤ n24) ∧ (((n24 : Int) < ((k17 : Nat) : Int)) ∧ (asPtr (.pointer o16) (fun a25 => (ldH h4 (Addr.add a25 (n24.toNat * 1)) (fun v26 => (asInt .i64 v26 (fun n27 => (asPtr c1 (fun a28 => (stH h4 a28 (.bool (x1 == n27)) (fun h29 => (asPtr c1 (fun a30 => (ldH h29 a30 (fun v31 => (asBool v31 (fun b32 => (K (.bool b32) h29))))))))))))))))))))))))))))))))) (asPtr c1 (fun a33 => (stH h4 a33 (.bool false) (fun h34 => (asPtr c1 (fun a35 => (ldH h34 a35 (fun v36 => (asBool v36 (fun b37 => (K (.bool b37) h34)))))))))))))))))) (asPtr c1 (fun a38 => (stH h4 a38 (.bool false) (fun h39 => (asPtr c1 (fun a40 => (ldH h39 a40 (fun v41 => (asBool v41 (fun b42 => (K (.bool b42) h39)))))))))))))))))) (asPtr c1 (fun a43 => (stH h4 a43 (.bool false) (fun h44 => (asPtr c1 (fun a45 => (ldH h44 a45 (fun v46 => (asBool v46 (fun b47 => (K (.bool b47) h44))))))))))))))))))))))))))))
theorem vc38 (K : Value → Heap → Prop) (h : Heap) (x0 : Int) (x1 : Int) (c0 : Value) (c1 : Value) (c2 : Value) : vc Try.prog (bodyOf Try.f38) (retQ Try.prog Try.f38.results.toList (hasRange (bodyOf Try.f38)) h.size K) (envL [(.int .i64 x0), (.int .i64 x1), c0, c1, c2]) h = F38 K h x0 x1 c0 c1 c2 := by kernel_rfl
theorem ok38 : fnOk Try.prog Try.f38 5 = true := by kernel_rfl
theorem call38 {K : Value → Heap → Prop} {h : Heap} {x0 : Int} {x1 : Int} {c0 : Value} {c1 : Value} {c2 : Value} (H : F38 K h x0 x1 c0 c1 c2) : CallH Try.prog 38 #[(.int .i64 x0), (.int .i64 x1), c0, c1, c2] h K :=
  callH_mk Try.func38 ok38 (Eq.mp (vc38 K h x0 x1 c0 c1 c2).symm H)

/-- jostle/seqs.Of[int]$1 -/
def F88 (K : Value → Heap → Prop) (h : Heap) (x0 : Value) (c0 : Value) : Prop :=
  (asPtr c0 (fun a0 => (ldH h a0 (fun v1 => (asSlice v1 (fun o2 k3 k4 => (exI (fun I5 => (exM (fun m6 => ((I5 [(.tuple #[]), (.int .i64 0)] h) ∧ (∀ v7 : Value, (∀ v8 : Value, (∀ g9 : Env, (∀ h10 : Heap, ((I5 [v7, v8] h10) → (asInt .i64 v8 (fun n11 => (ifB (decide (n11 < ((k3 : Nat) : Int))) (asI v8 (fun n12 => (((0 : Int) ≤ n12) ∧ (((n12 : Int) < ((k3 : Nat) : Int)) ∧ (asPtr (.pointer o2) (fun a13 => (ldH h10 (Addr.add a13 (n12.toNat * 1)) (fun v14 => (asInt .i64 v14 (fun n15 => (callV Try.prog x0 #[(.int .i64 n15)] h10 (fun v16 h17 => (asBool v16 (fun b18 => (ifB (!b18) (K (.tuple #[]) h17) (asInt .i64 v8 (fun n19 => ((I5 [(.int .i64 n15), (.int .i64 (IntKind.wrap .i64 (n19 + 1)))] h17) ∧ ((m6 [(.int .i64 n15), (.int .i64 (IntKind.wrap .i64 (n19 + 1)))] h17) < (m6 [v7, v8] h10)))))))))))))))))))) (K (.tuple #[]) h10))))))))))))))))))))
theorem vc88 (K : Value → Heap → Prop) (h : Heap) (x0 : Value) (c0 : Value) : vc Try.prog (bodyOf Try.f88) (retQ Try.prog Try.f88.results.toList (hasRange (bodyOf Try.f88)) h.size K) (envL [x0, c0]) h = F88 K h x0 c0 := by kernel_rfl
theorem ok88 : fnOk Try.prog Try.f88 2 = true := by kernel_rfl
theorem call88 {K : Value → Heap → Prop} {h : Heap} {x0 : Value} {c0 : Value} (H : F88 K h x0 c0) : CallH Try.prog 88 #[x0, c0] h K :=
  callH_mk Try.func88 ok88 (Eq.mp (vc88 K h x0 c0).symm H)

/-- jostle/seqs.Back[int]$1 -/
def F89 (K : Value → Heap → Prop) (h : Heap) (x0 : Value) (c0 : Value) : Prop :=
  (asPtr c0 (fun a0 => (ldH h a0 (fun v1 => (asSlice v1 (fun o2 k3 k4 => (exI (fun I5 => (exM (fun m6 => ((I5 [(.int .i64 (IntKind.wrap .i64 (((k3 : Nat) : Int) - 1)))] h) ∧ (∀ v7 : Value, (∀ g8 : Env, (∀ h9 : Heap, ((I5 [v7] h9) → (asInt .i64 v7 (fun n10 => (ifB (decide (n10 ≥ 0)) (asInt .i64 v7 (fun n11 => (asPtr c0 (fun a12 => (ldH h9 a12 (fun v13 => (asSlice v13 (fun o14 k15 k16 => (asInt .i64 v7 (fun n17 => (((0 : Int) ≤ n17) ∧ (((n17 : Int) < ((k15 : Nat) : Int)) ∧ (asPtr (.pointer o14) (fun a18 => (ldH h9 (Addr.add a18 (n17.toNat * 1)) (fun v19 => (asInt .i64 v19 (fun n20 => (callV Try.prog x0 #[(.int .i64 n11), (.int .i64 n20)] h9 (fun v21 h22 => (asBool v21 (fun b23 => (ifB (!b23) (K (.tuple #[]) h22) (asInt .i64 v7 (fun n24 => ((I5 [(.int .i64 (IntKind.wrap .i64 (n24 - 1)))] h22) ∧ ((m6 [(.int .i64 (IntKind.wrap .i64 (n24 - 1)))] h22) < (m6 [v7] h9)))))))))))))))))))))))))))) (K (.tuple #[]) h9)))))))))))))))))))
theorem vc89 (K : Value → Heap → Prop) (h : Heap) (x0 : Value) (c0 : Value) : vc Try.prog (bodyOf Try.f89) (retQ Try.prog Try.f89.results.toList (hasRange (bodyOf Try.f89)) h.size K) (envL [x0, c0]) h = F89 K h x0 c0 := by kernel_rfl
theorem ok89 : fnOk Try.prog Try.f89 2 = true := by kernel_rfl
theorem call89 {K : Value → Heap → Prop} {h : Heap} {x0 : Value} {c0 : Value} (H : F89 K h x0 c0) : CallH Try.prog 89 #[x0, c0] h K :=
  callH_mk Try.func89 ok89 (Eq.mp (vc89 K h x0 c0).symm H)

/-- jostle/jostlelaw03.SeqsNils -/
def F11 (K : Value → Heap → Prop) (h : Heap) (x0 : Int) : Prop :=
  (callV Try.prog (.func (.func 49) #[] #[]) #[.nilFunc, (.func (.func 50) #[] #[])] h (fun v0 h1 => (callV Try.prog (.func (.func 21) #[] #[]) #[v0] h1 (fun v2 h3 => (asSlice v2 (fun o4 k5 k6 => (callV Try.prog (.func (.func 22) #[] #[]) #[(.int .i64 0), (.int .i64 3)] h3 (fun v7 h8 => (callV Try.prog (.func (.func 51) #[] #[]) #[v7, .nilFunc] h8 (fun v9 h10 => (callV Try.prog (.func (.func 21) #[] #[]) #[v9] h10 (fun v11 h12 => (asSlice v11 (fun o13 k14 k15 => (callV Try.prog (.func (.func 23) #[] #[]) #[.nilFunc, (.int .i64 3)] h12 (fun v16 h17 => (callV Try.prog (.func (.func 21) #[] #[]) #[v16] h17 (fun v18 h19 => (asSlice v18 (fun o20 k21 k22 => (ifB ((IntKind.wrap .i64 ((IntKind.wrap .i64 (((k5 : Nat) : Int) + ((k14 : Nat) : Int))) + ((k21 : Nat) : Int))) == 0) (callV Try.prog (.func (.func 21) #[] #[]) #[.nilFunc] h19 (fun v23 h24 => (asSlice v23 (fun o25 k26 k27 => (ifB (((k26 : Nat) : Int) == 0) (callV Try.prog (.func (.func 52) #[] #[]) #[.nilFunc, (.func (.func 53) #[] #[])] h24 (fun v28 h29 => (asBool v28 (fun b30 => (ifB (!b30) (callV Try.prog (.func (.func 54) #[] #[]) #[.nilFunc, (.int .i64 x0), (.func (.func 55) #[] #[])] h29 (fun v31 h32 => (asInt .i64 v31 (fun n33 => (ifB (n33 == x0) (callV Try.prog (.func (.func 19) #[] #[]) #[] h32 (fun v34 h35 => (asBool v34 (fun b36 => (K (.bool b36) h35))))) (K (.bool false) h32)))))) (K (.bool false) h29)))))) (K (.bool false) h24)))))) (K (.bool false) h19))))))))))))))))))))))
theorem vc11 (K : Value → Heap → Prop) (h : Heap) (x0 : Int) : vc Try.prog (bodyOf Try.f11) (retQ Try.prog Try.f11.results.toList (hasRange (bodyOf Try.f11)) h.size K) (envL [(.int .i64 x0)]) h = F11 K h x0 := by kernel_rfl
theorem ok11 : fnOk Try.prog Try.f11 1 = true := by kernel_rfl
theorem call11 {K : Value → Heap → Prop} {h : Heap} {x0 : Int} (H : F11 K h x0) : CallH Try.prog 11 #[(.int .i64 x0)] h K :=
  callH_mk Try.func11 ok11 (Eq.mp (vc11 K h x0).symm H)

/-- jostle/jostlelaw03.SeqsKeeps -/
def F13 (K : Value → Heap → Prop) (h : Heap) (x0a : Option Addr) (x0l x0c : Nat) (x1 : Int) (x2 : Int) : Prop :=
  (exI (fun I0 => ((ifB (decide (((x0l : Nat) : Int) > 2000)) (I0 [(.bool true), (.bool true), (.bool true), (.bool true)] (Array.push h (.cells #[(.int .i64 x1)] 3))) (ldH (Array.push h (.cells #[(.int .i64 x1)] 3)) ⟨h.size, 0, none⟩ (fun v1 => (asInt .i64 v1 (fun n2 => (ifB (decide (n2 < 1)) (I0 [(.bool (decide (n2 < 1))), (.bool true), (.bool true), (.bool true)] (Array.push h (.cells #[(.int .i64 x1)] 3))) (ldH (Array.push h (.cells #[(.int .i64 x1)] 3)) ⟨h.size, 0, none⟩ (fun v3 => (asInt .i64 v3 (fun n4 => (ifB (decide (n4 > 1000)) (I0 [(.bool (decide (n2 < 1))), (.bool (decide (n4 > 1000))), (.bool true), (.bool true)] (Array.push h (.cells #[(.int .i64 x1)] 3))) (ifB (decide (x2 > 1000)) (I0 [(.bool (decide (n2 < 1))), (.bool (decide (n4 > 1000))), (.bool (decide (x2 > 1000))), (.bool true)] (Array.push h (.cells #[(.int .i64 x1)] 3))) (I0 [(.bool (decide (n2 < 1))), (.bool (decide (n4 > 1000))), (.bool (decide (x2 > 1000))), (.bool (decide (x2 < (-1000))))] (Array.push h (.cells #[(.int .i64 x1)] 3))))))))))))))) ∧ (∀ v5 : Value, (∀ v6 : Value, (∀ v7 : Value, (∀ v8 : Value, (∀ g9 : Env, (∀ h10 : Heap, ((I0 [v5, v6, v7, v8] h10) → (asBool v8 (fun b11 => (ifB b11 (callV Try.prog (.func (.func 19) #[] #[]) #[] h10 (fun v12 h13 => (asBool v12 (fun b14 => (K (.bool b14) h13))))) (exI (fun I15 => (exM (fun m16 => ((I15 [(.slice none 0 0), (.slice none 0 0), (.int .i64 x2), (.int .i64 0), (.tuple #[])] h10) ∧ (∀ v17 : Value, (∀ v18 : Value, (∀ v19 : Value, (∀ v20 : Value, (∀ v21 : Value, (∀ g22 : Env, (∀ h23 : Heap, ((I15 [v17, v18, v19, v20, v21] h23) → (asInt .i64 v20 (fun n24 => (ifB (decide (n24 < ((x0l : Nat) : Int))) (exI (fun I25 => ((asInt .i64 v20 (fun n26 => (((0 : Int) ≤ n26) ∧ (((n26 : Int) < ((x0l : Nat) : Int)) ∧ (asPtr (.pointer x0a) (fun a27 => (ldH h23 (Addr.add a27 (n26.toNat * 1)) (fun v28 => (asInt .i64 v28 (fun n29 => (((1000 : Int) ≠ 0) ∧ (ldH h23 ⟨h.size, 0, none⟩ (fun v30 => (asInt .i64 v30 (fun n31 => (((n31 : Int) ≠ 0) ∧ (ifB ((Int.tmod (Int.tmod n29 1000) n31) == 0) (asSlice v17 (fun o32 k33 k34 => (asInt .i64 v20 (fun n35 => (((0 : Int) ≤ n35) ∧ (((n35 : Int) < ((x0l : Nat) : Int)) ∧ (asPtr (.pointer x0a) (fun a36 => (ldH h23 (Addr.add a36 (n35.toNat * 1)) (fun v37 => (asInt .i64 v37 (fun n38 => (appH Try.prog #[23, 23] 23 #[(.slice o32 k33 k34), (.slice (some ⟨h23.size, 0, none⟩) 1 1)] (Array.push h23 (.cells #[(.int .i64 n38)] 3)) (fun v39 h40 => (asSlice v39 (fun o41 k42 k43 => (asSlice v18 (fun o44 k45 k46 => (appH Try.prog #[23, 23] 23 #[(.slice o44 k45 k46), (.slice (some ⟨h40.size, 0, none⟩) 1 1)] (Array.push h40 (.cells #[(.int .i64 (IntKind.wrap .i64 ((Int.tmod n29 1000) * 2)))] 3)) (fun v47 h48 => (asSlice v47 (fun o49 k50 k51 => (asInt .i64 v19 (fun n52 => (((1000 : Int) ≠ 0) ∧ (I25 [(.slice o41 k42 k43), (.slice o49 k50 k51), (.int .i64 (IntKind.wrap .i64 ((Int.tmod (IntKind.wrap .i64 (n52 * 3)) 1000) + (Int.tmod n29 1000)))), (.int .i64 (Int.tmod n29 1000))] h48)))))))))))))))))))))))))) (I25 [v17, v18, v19, (.int .i64 (Int.tmod n29 1000))] h23)))))))))))))))))) ∧ (∀ v53 : Value, (∀ v54 : Value, (∀ v55 : Value, (∀ v56 : Value, (∀ g57 : Env, (∀ h58 : Heap, ((I25 [v53, v54, v55, v56] h58) → (asInt .i64 v20 (fun n59 => ((I15 [v53, v54, v55, (.int .i64 (IntKind.wrap .i64 (n59 + 1))), v56] h58) ∧ ((m16 [v53, v54, v55, (.int .i64 (IntKind.wrap .i64 (n59 + 1))), v56] h58) < (m16 [v17, v18, v19, v20, v21] h23))))))))))))))) (callV Try.prog (.func (.func 36) #[] #[]) #[(.slice x0a x0l x0c)] h23 (fun v60 h61 => (callV Try.prog (.func (.func 49) #[] #[]) #[v60, (.func (.func 57) #[] #[(.pointer (some ⟨h.size, 0, none⟩))])] h61 (fun v62 h63 => (callV Try.prog (.func (.func 51) #[] #[]) #[v62, (.func (.func 58) #[] #[])] h63 (fun v64 h65 => (callV Try.prog (.func (.func 21) #[] #[]) #[v64] h65 (fun v66 h67 => (asSlice v66 (fun o68 k69 k70 => (callV Try.prog (.func (.func 54) #[] #[]) #[v62, (.int .i64 x2), (.func (.func 59) #[] #[])] h67 (fun v71 h72 => (asInt .i64 v71 (fun n73 => (callV Try.prog (.func (.func 21) #[] #[]) #[v62] h72 (fun v74 h75 => (asSlice v74 (fun o76 k77 k78 => (asSlice v17 (fun o79 k80 k81 => (callV Try.prog (.func (.func 20) #[] #[]) #[(.slice o76 k77 k78), (.slice o79 k80 k81)] h75 (fun v82 h83 => (asBool v82 (fun b84 => (ifB b84 (asSlice v18 (fun o85 k86 k87 => (callV Try.prog (.func (.func 20) #[] #[]) #[(.slice o68 k69 k70), (.slice o85 k86 k87)] h83 (fun v88 h89 => (asBool v88 (fun b90 => (ifB b90 (asInt .i64 v19 (fun n91 => (ifB (n73 == n91) (callV Try.prog (.func (.func 36) #[] #[]) #[(.slice x0a x0l x0c)] h89 (fun v92 h93 => (callV Try.prog (.func (.func 52) #[] #[]) #[v92, (.func (.func 57) #[] #[(.pointer (some ⟨h.size, 0, none⟩))])] h93 (fun v94 h95 => (asBool v94 (fun b96 => (asSlice v17 (fun o97 k98 k99 => (ifB (b96 == (decide (((k98 : Nat) : Int) > 0))) (callV Try.prog (.func (.func 19) #[] #[]) #[] h95 (fun v100 h101 => (asBool v100 (fun b102 => (K (.bool b102) h101))))) (K (.bool false) h95)))))))))) (K (.bool false) h89)))) (K (.bool false) h89)))))))) (K (.bool false) h83)))))))))))))))))))))))))))))))))))))))))))))))))))))))
theorem vc13 (K : Value → Heap → Prop) (h : Heap) (x0a : Option Addr) (x0l x0c : Nat) (x1 : Int) (x2 : Int) : vc Try.prog (bodyOf Try.f13) (retQ Try.prog Try.f13.results.toList (hasRange (bodyOf Try.f13)) h.size K) (envL [(.slice x0a x0l x0c), (.int .i64 x1), (.int .i64 x2)]) h = F13 K h x0a x0l x0c x1 x2 := by kernel_rfl
theorem ok13 : fnOk Try.prog Try.f13 3 = true := by kernel_rfl
theorem call13 {K : Value → Heap → Prop} {h : Heap} {x0a : Option Addr} {x0l x0c : Nat} {x1 : Int} {x2 : Int} (H : F13 K h x0a x0l x0c x1 x2) : CallH Try.prog 13 #[(.slice x0a x0l x0c), (.int .i64 x1), (.int .i64 x2)] h K :=
  callH_mk Try.func13 ok13 (Eq.mp (vc13 K h x0a x0l x0c x1 x2).symm H)

/-- jostle/seqs.Only[int] -/
def F49 (K : Value → Heap → Prop) (h : Heap) (x0 : Value) (x1 : Value) : Prop :=
  (oneC x0 (oneC x1 (exI (fun I0 => ((ldH (Array.push (Array.push h (.cells #[x0] 27)) (.cells #[x1] 50)) ⟨h.size, 0, none⟩ (fun v1 => (asFnNil v1 (fun b2 => (ifB b2 (I0 [(.bool true)] (Array.push (Array.push h (.cells #[x0] 27)) (.cells #[x1] 50))) (ldH (Array.push (Array.push h (.cells #[x0] 27)) (.cells #[x1] 50)) ⟨(Array.push h (.cells #[x0] 27)).size, 0, none⟩ (fun v3 => (asFnNil v3 (fun b4 => (I0 [(.bool b4)] (Array.push (Array.push h (.cells #[x0] 27)) (.cells #[x1] 50)))))))))))) ∧ (∀ v5 : Value, (∀ g6 : Env, (∀ h7 : Heap, ((I0 [v5] h7) → (asBool v5 (fun b8 => (ifB b8 (K (.func (.func 80) #[] #[]) h7) (K (.func (.func 93) #[] #[(.pointer (some ⟨h.size, 0, none⟩)), (.pointer (some ⟨(Array.push h (.cells #[x0] 27)).size, 0, none⟩))]) h7)))))))))))))
theorem vc49 (K : Value → Heap → Prop) (h : Heap) (x0 : Value) (x1 : Value) : vc Try.prog (bodyOf Try.f49) (retQ Try.prog Try.f49.results.toList (hasRange (bodyOf Try.f49)) h.size K) (envL [x0, x1]) h = F49 K h x0 x1 := by kernel_rfl
theorem ok49 : fnOk Try.prog Try.f49 2 = true := by kernel_rfl
theorem call49 {K : Value → Heap → Prop} {h : Heap} {x0 : Value} {x1 : Value} (H : F49 K h x0 x1) : CallH Try.prog 49 #[x0, x1] h K :=
  callH_mk Try.func49 ok49 (Eq.mp (vc49 K h x0 x1).symm H)

/-- jostle/jostlelaw03.SeqsNils$1 -/
def F50 (K : Value → Heap → Prop) (h : Heap) (x0 : Int) : Prop :=
  (K (.bool true) h)
theorem vc50 (K : Value → Heap → Prop) (h : Heap) (x0 : Int) : vc Try.prog (bodyOf Try.f50) (retQ Try.prog Try.f50.results.toList (hasRange (bodyOf Try.f50)) h.size K) (envL [(.int .i64 x0)]) h = F50 K h x0 := by kernel_rfl
theorem ok50 : fnOk Try.prog Try.f50 1 = true := by kernel_rfl
theorem call50 {K : Value → Heap → Prop} {h : Heap} {x0 : Int} (H : F50 K h x0) : CallH Try.prog 50 #[(.int .i64 x0)] h K :=
  callH_mk Try.func50 ok50 (Eq.mp (vc50 K h x0).symm H)

/-- jostle/seqs.Each[int,int] -/
def F51 (K : Value → Heap → Prop) (h : Heap) (x0 : Value) (x1 : Value) : Prop :=
  (oneC x0 (oneC x1 (exI (fun I0 => ((ldH (Array.push (Array.push h (.cells #[x0] 27)) (.cells #[x1] 69)) ⟨h.size, 0, none⟩ (fun v1 => (asFnNil v1 (fun b2 => (ifB b2 (I0 [(.bool true)] (Array.push (Array.push h (.cells #[x0] 27)) (.cells #[x1] 69))) (ldH (Array.push (Array.push h (.cells #[x0] 27)) (.cells #[x1] 69)) ⟨(Array.push h (.cells #[x0] 27)).size, 0, none⟩ (fun v3 => (asFnNil v3 (fun b4 => (I0 [(.bool b4)] (Array.push (Array.push h (.cells #[x0] 27)) (.cells #[x1] 69)))))))))))) ∧ (∀ v5 : Value, (∀ g6 : Env, (∀ h7 : Heap, ((I0 [v5] h7) → (asBool v5 (fun b8 => (ifB b8 (K (.func (.func 80) #[] #[]) h7) (K (.func (.func 94) #[] #[(.pointer (some ⟨h.size, 0, none⟩)), (.pointer (some ⟨(Array.push h (.cells #[x0] 27)).size, 0, none⟩))]) h7)))))))))))))
theorem vc51 (K : Value → Heap → Prop) (h : Heap) (x0 : Value) (x1 : Value) : vc Try.prog (bodyOf Try.f51) (retQ Try.prog Try.f51.results.toList (hasRange (bodyOf Try.f51)) h.size K) (envL [x0, x1]) h = F51 K h x0 x1 := by kernel_rfl
theorem ok51 : fnOk Try.prog Try.f51 2 = true := by kernel_rfl
theorem call51 {K : Value → Heap → Prop} {h : Heap} {x0 : Value} {x1 : Value} (H : F51 K h x0 x1) : CallH Try.prog 51 #[x0, x1] h K :=
  callH_mk Try.func51 ok51 (Eq.mp (vc51 K h x0 x1).symm H)

/-- jostle/seqs.Some[int] -/
def F52 (K : Value → Heap → Prop) (h : Heap) (x0 : Value) (x1 : Value) : Prop :=
  (callV Try.prog (.func (.func 49) #[] #[]) #[x0, x1] (Array.push h (.cells #[(.bool false)] 4)) (fun v0 h1 => (callV Try.prog (.func (.func 23) #[] #[]) #[v0, (.int .i64 1)] h1 (fun v2 h3 => (rangeH Try.prog v2 1 h3 (fun I4 vs5 h6 => (stH h6 ⟨h.size, 0, none⟩ (.bool true) (fun h7 => (I4 .ret h7)))) (fun h8 => (stH h8 ⟨h.size, 0, none⟩ (.bool false) (fun h9 => (ldH h9 ⟨h.size, 0, none⟩ (fun v10 => (∀ h11 : Heap, ((SameD h.size h9 h11) → (K v10 h11)))))))) [(.ret, (fun h12 => (ldH h12 ⟨h.size, 0, none⟩ (fun v13 => (∀ h14 : Heap, ((SameD h.size h12 h14) → (K v13 h14)))))))])))))
theorem vc52 (K : Value → Heap → Prop) (h : Heap) (x0 : Value) (x1 : Value) : vc Try.prog (bodyOf Try.f52) (retQ Try.prog Try.f52.results.toList (hasRange (bodyOf Try.f52)) h.size K) (envL [x0, x1]) h = F52 K h x0 x1 := by kernel_rfl
theorem ok52 : fnOk Try.prog Try.f52 2 = true := by kernel_rfl
theorem call52 {K : Value → Heap → Prop} {h : Heap} {x0 : Value} {x1 : Value} (H : F52 K h x0 x1) : CallH Try.prog 52 #[x0, x1] h K :=
  callH_mk Try.func52 ok52 (Eq.mp (vc52 K h x0 x1).symm H)

/-- jostle/jostlelaw03.SeqsNils$2 -/
def F53 (K : Value → Heap → Prop) (h : Heap) (x0 : Int) : Prop :=
  (K (.bool true) h)
theorem vc53 (K : Value → Heap → Prop) (h : Heap) (x0 : Int) : vc Try.prog (bodyOf Try.f53) (retQ Try.prog Try.f53.results.toList (hasRange (bodyOf Try.f53)) h.size K) (envL [(.int .i64 x0)]) h = F53 K h x0 := by kernel_rfl
theorem ok53 : fnOk Try.prog Try.f53 1 = true := by kernel_rfl
theorem call53 {K : Value → Heap → Prop} {h : Heap} {x0 : Int} (H : F53 K h x0) : CallH Try.prog 53 #[(.int .i64 x0)] h K :=
  callH_mk Try.func53 ok53 (Eq.mp (vc53 K h x0).symm H)

/-- jostle/seqs.Fold[int,int] -/
def F54 (K : Value → Heap → Prop) (h : Heap) (x0 : Value) (x1 : Int) (x2 : Value) : Prop :=
  (oneC x2 (exI (fun I0 => ((asFnNil x0 (fun b1 => (ifB b1 (I0 [(.bool true)] (Array.push (Array.push h (.cells #[(.int .i64 x1)] 3)) (.cells #[x2] 42))) (ldH (Array.push (Array.push h (.cells #[(.int .i64 x1)] 3)) (.cells #[x2] 42)) ⟨(Array.push h (.cells #[(.int .i64 x1)] 3)).size, 0, none⟩ (fun v2 => (asFnNil v2 (fun b3 => (I0 [(.bool b3)] (Array.push (Array.push h (.cells #[(.int .i64 x1)] 3)) (.cells #[x2] 42)))))))))) ∧ (∀ v4 : Value, (∀ g5 : Env, (∀ h6 : Heap, ((I0 [v4] h6) → (asBool v4 (fun b7 => (ifB b7 (ldH h6 ⟨h.size, 0, none⟩ (fun v8 => (asInt .i64 v8 (fun n9 => (∀ h10 : Heap, ((SameD h.size h6 h10) → (K (.int .i64 n9) h10))))))) (rangeH Try.prog x0 1 h6 (fun I11 vs12 h13 => (asInt .i64 (vs12.getD 0 (.tuple #[])) (fun n14 => (ldH h13 ⟨(Array.push h (.cells #[(.int .i64 x1)] 3)).size, 0, none⟩ (fun v15 => (ldH h13 ⟨h.size, 0, none⟩ (fun v16 => (asInt .i64 v16 (fun n17 => (callV Try.prog v15 #[(.int .i64 n17), (.int .i64 n14)] h13 (fun v18 h19 => (asInt .i64 v18 (fun n20 => (stH h19 ⟨h.size, 0, none⟩ (.int .i64 n20) (fun h21 => (I11 .normal h21)))))))))))))))) (fun h22 => (ldH h22 ⟨h.size, 0, none⟩ (fun v23 => (asInt .i64 v23 (fun n24 => (∀ h25 : Heap, ((SameD h.size h22 h25) → (K (.int .i64 n24) h25)))))))) []))))))))))))
theorem vc54 (K : Value → Heap → Prop) (h : Heap) (x0 : Value) (x1 : Int) (x2 : Value) : vc Try.prog (bodyOf Try.f54) (retQ Try.prog Try.f54.results.toList (hasRange (bodyOf Try.f54)) h.size K) (envL [x0, (.int .i64 x1), x2]) h = F54 K h x0 x1 x2 := by kernel_rfl
theorem ok54 : fnOk Try.prog Try.f54 3 = true := by kernel_rfl
theorem call54 {K : Value → Heap → Prop} {h : Heap} {x0 : Value} {x1 : Int} {x2 : Value} (H : F54 K h x0 x1 x2) : CallH Try.prog 54 #[x0, (.int .i64 x1), x2] h K :=
  callH_mk Try.func54 ok54 (Eq.mp (vc54 K h x0 x1 x2).symm H)

/-- jostle/jostlelaw03.SeqsNils$3 -/
def F55 (K : Value → Heap → Prop) (h : Heap) (x0 : Int) (x1 : Int) : Prop :=
  (K (.int .i64 (IntKind.wrap .i64 (x0 + x1))) h)
theorem vc55 (K : Value → Heap → Prop) (h : Heap) (x0 : Int) (x1 : Int) : vc Try.prog (bodyOf Try.f55) (retQ Try.prog Try.f55.results.toList (hasRange (bodyOf Try.f55)) h.size K) (envL [(.int .i64 x0), (.int .i64 x1)]) h = F55 K h x0 x1 := by kernel_rfl
theorem ok55 : fnOk Try.prog Try.f55 2 = true := by kernel_rfl
theorem call55 {K : Value → Heap → Prop} {h : Heap} {x0 : Int} {x1 : Int} (H : F55 K h x0 x1) : CallH Try.prog 55 #[(.int .i64 x0), (.int .i64 x1)] h K :=
  callH_mk Try.func55 ok55 (Eq.mp (vc55 K h x0 x1).symm H)

/-- jostle/jostlelaw03.SeqsKeeps$1 -/
def F57 (K : Value → Heap → Prop) (h : Heap) (x0 : Int) (c0 : Value) : Prop :=
  (((1000 : Int) ≠ 0) ∧ (asPtr c0 (fun a0 => (ldH h a0 (fun v1 => (asInt .i64 v1 (fun n2 => (((n2 : Int) ≠ 0) ∧ (K (.bool ((Int.tmod (Int.tmod x0 1000) n2) == 0)) h)))))))))
theorem vc57 (K : Value → Heap → Prop) (h : Heap) (x0 : Int) (c0 : Value) : vc Try.prog (bodyOf Try.f57) (retQ Try.prog Try.f57.results.toList (hasRange (bodyOf Try.f57)) h.size K) (envL [(.int .i64 x0), c0]) h = F57 K h x0 c0 := by kernel_rfl
theorem ok57 : fnOk Try.prog Try.f57 2 = true := by kernel_rfl
theorem call57 {K : Value → Heap → Prop} {h : Heap} {x0 : Int} {c0 : Value} (H : F57 K h x0 c0) : CallH Try.prog 57 #[(.int .i64 x0), c0] h K :=
  callH_mk Try.func57 ok57 (Eq.mp (vc57 K h x0 c0).symm H)

/-- jostle/jostlelaw03.SeqsKeeps$2 -/
def F58 (K : Value → Heap → Prop) (h : Heap) (x0 : Int) : Prop :=
  (((1000 : Int) ≠ 0) ∧ (K (.int .i64 (IntKind.wrap .i64 ((Int.tmod x0 1000) * 2))) h))
theorem vc58 (K : Value → Heap → Prop) (h : Heap) (x0 : Int) : vc Try.prog (bodyOf Try.f58) (retQ Try.prog Try.f58.results.toList (hasRange (bodyOf Try.f58)) h.size K) (envL [(.int .i64 x0)]) h = F58 K h x0 := by kernel_rfl
theorem ok58 : fnOk Try.prog Try.f58 1 = true := by kernel_rfl
theorem call58 {K : Value → Heap → Prop} {h : Heap} {x0 : Int} (H : F58 K h x0) : CallH Try.prog 58 #[(.int .i64 x0)] h K :=
  callH_mk Try.func58 ok58 (Eq.mp (vc58 K h x0).symm H)

/-- jostle/jostlelaw03.SeqsKeeps$3 -/
def F59 (K : Value → Heap → Prop) (h : Heap) (x0 : Int) (x1 : Int) : Prop :=
  (((1000 : Int) ≠ 0) ∧ (((1000 : Int) ≠ 0) ∧ (K (.int .i64 (IntKind.wrap .i64 ((Int.tmod (IntKind.wrap .i64 (x0 * 3)) 1000) + (Int.tmod x1 1000)))) h)))
theorem vc59 (K : Value → Heap → Prop) (h : Heap) (x0 : Int) (x1 : Int) : vc Try.prog (bodyOf Try.f59) (retQ Try.prog Try.f59.results.toList (hasRange (bodyOf Try.f59)) h.size K) (envL [(.int .i64 x0), (.int .i64 x1)]) h = F59 K h x0 x1 := by kernel_rfl
theorem ok59 : fnOk Try.prog Try.f59 2 = true := by kernel_rfl
theorem call59 {K : Value → Heap → Prop} {h : Heap} {x0 : Int} {x1 : Int} (H : F59 K h x0 x1) : CallH Try.prog 59 #[(.int .i64 x0), (.int .i64 x1)] h K :=
  callH_mk Try.func59 ok59 (Eq.mp (vc59 K h x0 x1).symm H)

/-- jostle/seqs.Only[int]$1 -/
def F93 (K : Value → Heap → Prop) (h : Heap) (x0 : Value) (c0 : Value) (c1 : Value) : Prop :=
  (oneC x0 (asPtr c0 (fun a0 => (ldH (Array.push h (.cells #[x0] 50)) a0 (fun v1 => (rangeH Try.prog v1 1 (Array.push h (.cells #[x0] 50)) (fun I2 vs3 h4 => (asInt .i64 (vs3.getD 0 (.tuple #[])) (fun n5 => (exI (fun I6 => ((asPtr c1 (fun a7 => (ldH h4 a7 (fun v8 => (callV Try.prog v8 #[(.int .i64 n5)] h4 (fun v9 h10 => (asBool v9 (fun b11 => (ifB b11 (ldH h10 ⟨h.size, 0, none⟩ (fun v12 => (callV Try.prog v12 #[(.int .i64 n5)] h10 (fun v13 h14 => (asBool v13 (fun b15 => (I6 [(.bool (!b15))] h14))))))) (I6 [(.bool false)] h10)))))))))) ∧ (∀ v16 : Value, (∀ g17 : Env, (∀ h18 : Heap, ((I6 [v16] h18) → (asBool v16 (fun b19 => (ifB b19 (I2 .ret h18) (I2 .normal h18)))))))))))))) (fun h20 => (∀ h21 : Heap, ((SameD h.size h20 h21) → (K (.tuple #[]) h21)))) [(.ret, (fun h22 => (∀ h23 : Heap, ((SameD h.size h22 h23) → (K (.tuple #[]) h23)))))]))))))
theorem vc93 (K : Value → Heap → Prop) (h : Heap) (x0 : Value) (c0 : Value) (c1 : Value) : vc Try.prog (bodyOf Try.f93) (retQ Try.prog Try.f93.results.toList (hasRange (bodyOf Try.f93)) h.size K) (envL [x0, c0, c1]) h = F93 K h x0 c0 c1 := by kernel_rfl
theorem ok93 : fnOk Try.prog Try.f93 3 = true := by kernel_rfl
theorem call93 {K : Value → Heap → Prop} {h : Heap} {x0 : Value} {c0 : Value} {c1 : Value} (H : F93 K h x0 c0 c1) : CallH Try.prog 93 #[x0, c0, c1] h K :=
  callH_mk Try.func93 ok93 (Eq.mp (vc93 K h x0 c0 c1).symm H)

/-- jostle/seqs.Each[int,int]$1 -/
def F94 (K : Value → Heap → Prop) (h : Heap) (x0 : Value) (c0 : Value) (c1 : Value) : Prop :=
  (oneC x0 (asPtr c0 (fun a0 => (ldH (Array.push h (.cells #[x0] 50)) a0 (fun v1 => (rangeH Try.prog v1 1 (Array.push h (.cells #[x0] 50)) (fun I2 vs3 h4 => (asInt .i64 (vs3.getD 0 (.tuple #[])) (fun n5 => (ldH h4 ⟨h.size, 0, none⟩ (fun v6 => (asPtr c1 (fun a7 => (ldH h4 a7 (fun v8 => (callV Try.prog v8 #[(.int .i64 n5)] h4 (fun v9 h10 => (asInt .i64 v9 (fun n11 => (((cellAt h10 ⟨h.size, 0, none⟩) = (some v6)) ∧ (callV Try.prog v6 #[(.int .i64 n11)] h10 (fun v12 h13 => (asBool v12 (fun b14 => (ifB (!b14) (I2 .ret h13) (I2 .normal h13)))))))))))))))))))) (fun h15 => (∀ h16 : Heap, ((SameD h.size h15 h16) → (K (.tuple #[]) h16)))) [(.ret, (fun h17 => (∀ h18 : Heap, ((SameD h.size h17 h18) → (K (.tuple #[]) h18)))))]))))))
theorem vc94 (K : Value → Heap → Prop) (h : Heap) (x0 : Value) (c0 : Value) (c1 : Value) : vc Try.prog (bodyOf Try.f94) (retQ Try.prog Try.f94.results.toList (hasRange (bodyOf Try.f94)) h.size K) (envL [x0, c0, c1]) h = F94 K h x0 c0 c1 := by kernel_rfl
theorem ok94 : fnOk Try.prog Try.f94 3 = true := by kernel_rfl
theorem call94 {K : Value → Heap → Prop} {h : Heap} {x0 : Value} {c0 : Value} {c1 : Value} (H : F94 K h x0 c0 c1) : CallH Try.prog 94 #[x0, c0, c1] h K :=
  callH_mk Try.func94 ok94 (Eq.mp (vc94 K h x0 c0 c1).symm H)

end Go.Proofs.Ytgladmaagpcffaa
