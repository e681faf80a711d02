/- The formulas of functions, printed by a program of mine. -/
import Derived.Test.YtgladmaagpcffaaVq
import Derived.Test.YtgladmaagpcffaaProg
set_option linter.unusedVariables false
namespace Go.Proofs.Ytgladmaagpcffaa
/-- jostle/seqs.Count$1 -/
def F79 (K : Value → Heap → Prop) (h : Heap) (x0 : Value) (c0 : Value) (c1 : Value) : Prop :=
  (asPtr c0 (fun a0 => (ldH h a0 (fun v1 => (asInt .i64 v1 (fun n2 => (exI (fun I3 => (exM (fun m4 => ((I3 [(.int .i64 n2)] h) ∧ (∀ v5 : Value, (∀ g6 : Env, (∀ h7 : Heap, ((I3 [v5] h7) → (asInt .i64 v5 (fun n8 => (asPtr c1 (fun a9 => (ldH h7 a9 (fun v10 => (asInt .i64 v10 (fun n11 => (ifB (decide (n8 < n11)) (asInt .i64 v5 (fun n12 => (callV Try.prog x0 #[(.int .i64 n12)] h7 (fun v13 h14 => (asBool v13 (fun b15 => (ifB (!b15) (K (.tuple #[]) h14) (asInt .i64 v5 (fun n16 => ((I3 [(.int .i64 (IntKind.wrap .i64 (n16 + 1)))] h14) ∧ ((m4 [(.int .i64 (IntKind.wrap .i64 (n16 + 1)))] h14) < (m4 [v5] h7)))))))))))) (K (.tuple #[]) h7)))))))))))))))))))))))))
theorem vc79 (K : Value → Heap → Prop) (h : Heap) (x0 : Value) (c0 : Value) (c1 : Value) : vc Try.prog (bodyOf Try.f79) (retQ Try.prog Try.f79.results.toList (hasRange (bodyOf Try.f79)) h.size K) (envL [x0, c0, c1]) h = F79 K h x0 c0 c1 := by kernel_rfl
theorem ok79 : fnOk Try.prog Try.f79 3 = true := by kernel_rfl
theorem call79 {K : Value → Heap → Prop} {h : Heap} {x0 : Value} {c0 : Value} {c1 : Value} (H : F79 K h x0 c0 c1) : CallH Try.prog 79 #[x0, c0, c1] h K :=
  callH_mk Try.func79 ok79 (Eq.mp (vc79 K h x0 c0 c1).symm H)

/-- jostle/seqs.none[int] -/
def F80 (K : Value → Heap → Prop) (h : Heap) (x0 : Value) : Prop :=
  (K (.tuple #[]) h)
theorem vc80 (K : Value → Heap → Prop) (h : Heap) (x0 : Value) : vc Try.prog (bodyOf Try.f80) (retQ Try.prog Try.f80.results.toList (hasRange (bodyOf Try.f80)) h.size K) (envL [x0]) h = F80 K h x0 := by kernel_rfl
theorem ok80 : fnOk Try.prog Try.f80 1 = true := by kernel_rfl
theorem call80 {K : Value → Heap → Prop} {h : Heap} {x0 : Value} (H : F80 K h x0) : CallH Try.prog 80 #[x0] h K :=
  callH_mk Try.func80 ok80 (Eq.mp (vc80 K h x0).symm H)

/-- jostle/seqs.First[int]$1 -/
def F81 (K : Value → Heap → Prop) (h : Heap) (x0 : Value) (c0 : Value) (c1 : Value) : Prop :=
  (oneC x0 (asPtr c0 (fun a0 => (ldH (Array.push h (.cells #[x0] 50)) a0 (fun v1 => (asInt .i64 v1 (fun n2 => (stH (Array.push (Array.push h (.cells #[x0] 50)) (.cells #[(.int .i64 0)] 3)) ⟨(Array.push h (.cells #[x0] 50)).size, 0, none⟩ (.int .i64 n2) (fun h3 => (asPtr c1 (fun a4 => (ldH h3 a4 (fun v5 => (rangeH Try.prog v5 1 h3 (fun I6 vs7 h8 => (asInt .i64 (vs7.getD 0 (.tuple #[])) (fun n9 => (ldH h8 ⟨(Array.push h (.cells #[x0] 50)).size, 0, none⟩ (fun v10 => (asInt .i64 v10 (fun n11 => (stH h8 ⟨(Array.push h (.cells #[x0] 50)).size, 0, none⟩ (.int .i64 (IntKind.wrap .i64 (n11 - 1))) (fun h12 => (exI (fun I13 => ((ldH h12 ⟨h.size, 0, none⟩ (fun v14 => (callV Try.prog v14 #[(.int .i64 n9)] h12 (fun v15 h16 => (asBool v15 (fun b17 => (ifB (!b17) (I13 [(.bool true)] h16) (ldH h16 ⟨(Array.push h (.cells #[x0] 50)).size, 0, none⟩ (fun v18 => (asInt .i64 v18 (fun n19 => (I13 [(.bool (n19 == 0))] h16)))))))))))) ∧ (∀ v20 : Value, (∀ g21 : Env, (∀ h22 : Heap, ((I13 [v20] h22) → (asBool v20 (fun b23 => (ifB b23 (I6 .ret h22) (I6 .normal h22)))))))))))))))))))) (fun h24 => (∀ h25 : Heap, ((SameD h.size h24 h25) → (K (.tuple #[]) h25)))) [(.ret, (fun h26 => (∀ h27 : Heap, ((SameD h.size h26 h27) → (K (.tuple #[]) h27)))))]))))))))))))))
theorem vc81 (K : Value → Heap → Prop) (h : Heap) (x0 : Value) (c0 : Value) (c1 : Value) : vc Try.prog (bodyOf Try.f81) (retQ Try.prog Try.f81.results.toList (hasRange (bodyOf Try.f81)) h.size K) (envL [x0, c0, c1]) h = F81 K h x0 c0 c1 := by kernel_rfl
theorem ok81 : fnOk Try.prog Try.f81 3 = true := by kernel_rfl
theorem call81 {K : Value → Heap → Prop} {h : Heap} {x0 : Value} {c0 : Value} {c1 : Value} (H : F81 K h x0 c0 c1) : CallH Try.prog 81 #[x0, c0, c1] h K :=
  callH_mk Try.func81 ok81 (Eq.mp (vc81 K h x0 c0 c1).symm H)

/-- jostle/jostlelaw03.lives -/
def F19 (K : Value → Heap → Prop) (h : Heap)  : Prop :=
  (callV Try.prog (.func (.func 22) #[] #[]) #[(.int .i64 2), (.int .i64 9)] h (fun v0 h1 => (callV Try.prog (.func (.func 23) #[] #[]) #[v0, (.int .i64 3)] h1 (fun v2 h3 => (callV Try.prog (.func (.func 21) #[] #[]) #[v2] h3 (fun v4 h5 => (asSlice v4 (fun o6 k7 k8 => (callV Try.prog (.func (.func 20) #[] #[]) #[(.slice o6 k7 k8), (.slice (some ⟨h5.size, 0, none⟩) 3 3)] (Array.push h5 (.cells #[(.int .i64 2), (.int .i64 3), (.int .i64 4)] 3)) (fun v9 h10 => (asBool v9 (fun b11 => (K (.bool b11) h10)))))))))))))
theorem vc19 (K : Value → Heap → Prop) (h : Heap)  : vc Try.prog (bodyOf Try.f19) (retQ Try.prog Try.f19.results.toList (hasRange (bodyOf Try.f19)) h.size K) (envL []) h = F19 K h  := by kernel_rfl
theorem ok19 : fnOk Try.prog Try.f19 0 = true := by kernel_rfl
theorem call19 {K : Value → Heap → Prop} {h : Heap}  (H : F19 K h ) : CallH Try.prog 19 #[] h K :=
  callH_mk Try.func19 ok19 (Eq.mp (vc19 K h ).symm H)

/-- jostle/jostlelaw03.same -/
def F20 (K : Value → Heap → Prop) (h : Heap) (x0a : Option Addr) (x0l x0c : Nat) (x1a : Option Addr) (x1l x1c : Nat) : Prop :=
  (ifB (((x0l : Nat) : Int) != ((x1l : Nat) : Int)) (K (.bool false) h) (exI (fun I0 => (exM (fun m1 => ((I0 [(.bool false), (.int .i64 0)] h) ∧ (∀ v2 : Value, (∀ v3 : Value, (∀ g4 : Env, (∀ h5 : Heap, ((I0 [v2, v3] h5) → (asInt .i64 v3 (fun n6 => (ifB (decide (n6 < ((x0l : Nat) : Int))) (asInt .i64 v3 (fun n7 => ((0 ≤ n7) ∧ ((n7 < ((x0l : Nat) : Int)) ∧ (asPtr (.pointer x0a) (fun a8 => (ldH h5 (Addr.add a8 (n7.toNat * 1)) (fun v9 => (asInt .i64 v9 (fun n10 => (asInt .i64 v3 (fun n11 => ((0 ≤ n11) ∧ ((n11 < ((x1l : Nat) : Int)) ∧ (asPtr (.pointer x1a) (fun a12 => (ldH h5 (Addr.add a12 (n11.toNat * 1)) (fun v13 => (asInt .i64 v13 (fun n14 => (ifB (n10 != n14) (K (.bool false) h5) (asInt .i64 v3 (fun n15 => ((I0 [v2, (.int .i64 (IntKind.wrap .i64 (n15 + 1)))] h5) ∧ ((m1 [v2, (.int .i64 (IntKind.wrap .i64 (n15 + 1)))] h5) < (m1 [v2, v3] h5)))))))))))))))))))))))))) (K (.bool true) h5)))))))))))))))
theorem vc20 (K : Value → Heap → Prop) (h : Heap) (x0a : Option Addr) (x0l x0c : Nat) (x1a : Option Addr) (x1l x1c : Nat) : vc Try.prog (bodyOf Try.f20) (retQ Try.prog Try.f20.results.toList (hasRange (bodyOf Try.f20)) h.size K) (envL [(.slice x0a x0l x0c), (.slice x1a x1l x1c)]) h = F20 K h x0a x0l x0c x1a x1l x1c := by kernel_rfl
theorem ok20 : fnOk Try.prog Try.f20 2 = true := by kernel_rfl
theorem call20 {K : Value → Heap → Prop} {h : Heap} {x0a : Option Addr} {x0l x0c : Nat} {x1a : Option Addr} {x1l x1c : Nat} (H : F20 K h x0a x0l x0c x1a x1l x1c) : CallH Try.prog 20 #[(.slice x0a x0l x0c), (.slice x1a x1l x1c)] h K :=
  callH_mk Try.func20 ok20 (Eq.mp (vc20 K h x0a x0l x0c x1a x1l x1c).symm H)

/-- jostle/seqs.List[int] -/
def F21 (K : Value → Heap → Prop) (h : Heap) (x0 : Value) : Prop :=
  (asFnNil x0 (fun b0 => (ifB b0 (∀ h1 : Heap, ((SameD h.size (Array.push h (.cells #[(.slice none 0 0)] 23)) h1) → (K (.slice none 0 0) h1))) (rangeH Try.prog x0 1 (Array.push h (.cells #[(.slice none 0 0)] 23)) (fun I2 vs3 h4 => (asInt .i64 (vs3.getD 0 (.tuple #[])) (fun n5 => (ldH h4 ⟨h.size, 0, none⟩ (fun v6 => (asSlice v6 (fun o7 k8 k9 => (appH Try.prog #[23, 23] 23 #[(.slice o7 k8 k9), (.slice (some ⟨h4.size, 0, none⟩) 1 1)] (Array.push h4 (.cells #[(.int .i64 n5)] 3)) (fun v10 h11 => (asSlice v10 (fun o12 k13 k14 => (stH h11 ⟨h.size, 0, none⟩ (.slice o12 k13 k14) (fun h15 => (I2 .normal h15)))))))))))))) (fun h16 => (ldH h16 ⟨h.size, 0, none⟩ (fun v17 => (asSlice v17 (fun o18 k19 k20 => (∀ h21 : Heap, ((SameD h.size h16 h21) → (K (.slice o18 k19 k20) h21)))))))) []))))
theorem vc21 (K : Value → Heap → Prop) (h : Heap) (x0 : Value) : vc Try.prog (bodyOf Try.f21) (retQ Try.prog Try.f21.results.toList (hasRange (bodyOf Try.f21)) h.size K) (envL [x0]) h = F21 K h x0 := by kernel_rfl
theorem ok21 : fnOk Try.prog Try.f21 1 = true := by kernel_rfl
theorem call21 {K : Value → Heap → Prop} {h : Heap} {x0 : Value} (H : F21 K h x0) : CallH Try.prog 21 #[x0] h K :=
  callH_mk Try.func21 ok21 (Eq.mp (vc21 K h x0).symm H)

/-- jostle/seqs.Count -/
def F22 (K : Value → Heap → Prop) (h : Heap) (x0 : Int) (x1 : Int) : Prop :=
  (K (.func (.func 79) #[] #[(.pointer (some ⟨h.size, 0, none⟩)), (.pointer (some ⟨(Array.push h (.cells #[(.int .i64 x0)] 3)).size, 0, none⟩))]) (Array.push (Array.push h (.cells #[(.int .i64 x0)] 3)) (.cells #[(.int .i64 x1)] 3)))
theorem vc22 (K : Value → Heap → Prop) (h : Heap) (x0 : Int) (x1 : Int) : vc Try.prog (bodyOf Try.f22) (retQ Try.prog Try.f22.results.toList (hasRange (bodyOf Try.f22)) h.size K) (envL [(.int .i64 x0), (.int .i64 x1)]) h = F22 K h x0 x1 := by kernel_rfl
theorem ok22 : fnOk Try.prog Try.f22 2 = true := by kernel_rfl
theorem call22 {K : Value → Heap → Prop} {h : Heap} {x0 : Int} {x1 : Int} (H : F22 K h x0 x1) : CallH Try.prog 22 #[(.int .i64 x0), (.int .i64 x1)] h K :=
  callH_mk Try.func22 ok22 (Eq.mp (vc22 K h x0 x1).symm H)

/-- jostle/seqs.First[int] -/
def F23 (K : Value → Heap → Prop) (h : Heap) (x0 : Value) (x1 : Int) : Prop :=
  (oneC x0 (exI (fun I0 => ((ldH (Array.push (Array.push h (.cells #[x0] 27)) (.cells #[(.int .i64 x1)] 3)) ⟨h.size, 0, none⟩ (fun v1 => (asFnNil v1 (fun b2 => (ifB b2 (I0 [(.bool true)] (Array.push (Array.push h (.cells #[x0] 27)) (.cells #[(.int .i64 x1)] 3))) (ldH (Array.push (Array.push h (.cells #[x0] 27)) (.cells #[(.int .i64 x1)] 3)) ⟨(Array.push h (.cells #[x0] 27)).size, 0, none⟩ (fun v3 => (asInt .i64 v3 (fun n4 => (I0 [(.bool (decide (n4 < 1)))] (Array.push (Array.push h (.cells #[x0] 27)) (.cells #[(.int .i64 x1)] 3)))))))))))) ∧ (∀ v5 : Value, (∀ g6 : Env, (∀ h7 : Heap, ((I0 [v5] h7) → (asBool v5 (fun b8 => (ifB b8 (K (.func (.func 80) #[] #[]) h7) (K (.func (.func 81) #[] #[(.pointer (some ⟨(Array.push h (.cells #[x0] 27)).size, 0, none⟩)), (.pointer (some ⟨h.size, 0, none⟩))]) h7))))))))))))
theorem vc23 (K : Value → Heap → Prop) (h : Heap) (x0 : Value) (x1 : Int) : vc Try.prog (bodyOf Try.f23) (retQ Try.prog Try.f23.results.toList (hasRange (bodyOf Try.f23)) h.size K) (envL [x0, (.int .i64 x1)]) h = F23 K h x0 x1 := by kernel_rfl
theorem ok23 : fnOk Try.prog Try.f23 2 = true := by kernel_rfl
theorem call23 {K : Value → Heap → Prop} {h : Heap} {x0 : Value} {x1 : Int} (H : F23 K h x0 x1) : CallH Try.prog 23 #[x0, (.int .i64 x1)] h K :=
  callH_mk Try.func23 ok23 (Eq.mp (vc23 K h x0 x1).symm H)

/-- jostle/jostlelaw03.SeqsCounts -/
def F3 (K : Value → Heap → Prop) (h : Heap) (x0 : Int) (x1 : Int) (x2 : Int) : Prop :=
  (exI (fun I0 => ((ifB (decide (x0 > 1000000)) (I0 [(.bool true), (.bool true), (.tuple #[]), (.bool true)] h) (ifB (decide (x0 < (-1000000))) (I0 [(.bool (decide (x0 < (-1000000)))), (.bool true), (.tuple #[]), (.bool true)] h) (ifB (decide (x1 > 1000000)) (I0 [(.bool (decide (x0 < (-1000000)))), (.bool (decide (x1 > 1000000))), (.tuple #[]), (.bool true)] h) (ifB (decide (x1 > x0)) (I0 [(.bool (decide (x0 < (-1000000)))), (.bool (decide (x1 > 1000000))), (.bool (decide ((IntKind.wrap .i64 (x1 - x0)) > 3000))), (.bool (decide ((IntKind.wrap .i64 (x1 - x0)) > 3000)))] h) (I0 [(.bool (decide (x0 < (-1000000)))), (.bool (decide (x1 > 1000000))), (.bool false), (.bool false)] h))))) ∧ (∀ v1 : Value, (∀ v2 : Value, (∀ v3 : Value, (∀ v4 : Value, (∀ g5 : Env, (∀ h6 : Heap, ((I0 [v1, v2, v3, v4] h6) → (asBool v4 (fun b7 => (ifB b7 (callV Try.prog (.func (.func 19) #[] #[]) #[] h6 (fun v8 h9 => (asBool v8 (fun b10 => (K (.bool b10) h9))))) (exI (fun I11 => (exM (fun m12 => ((I11 [(.slice none 0 0), (.slice none 0 0), (.int .i64 x0)] h6) ∧ (∀ v13 : Value, (∀ v14 : Value, (∀ v15 : Value, (∀ g16 : Env, (∀ h17 : Heap, ((I11 [v13, v14, v15] h17) → (asInt .i64 v15 (fun n18 => (ifB (decide (n18 < x1)) (exI (fun I19 => ((asSlice v13 (fun o20 k21 k22 => (asInt .i64 v15 (fun n23 => (appH Try.prog #[23, 23] 23 #[(.slice o20 k21 k22), (.slice (some ⟨h17.size, 0, none⟩) 1 1)] (Array.push h17 (.cells #[(.int .i64 n23)] 3)) (fun v24 h25 => (asSlice v24 (fun o26 k27 k28 => (asSlice v14 (fun o29 k30 k31 => (ifB (decide (((k30 : Nat) : Int) < x2)) (asSlice v14 (fun o32 k33 k34 => (asInt .i64 v15 (fun n35 => (appH Try.prog #[23, 23] 23 #[(.slice o32 k33 k34), (.slice (some ⟨h25.size, 0, none⟩) 1 1)] (Array.push h25 (.cells #[(.int .i64 n35)] 3)) (fun v36 h37 => (asSlice v36 (fun o38 k39 k40 => (I19 [(.slice o26 k27 k28), (.slice o38 k39 k40)] h37))))))))) (I19 [(.slice o26 k27 k28), v14] h25)))))))))))) ∧ (∀ v41 : Value, (∀ v42 : Value, (∀ g43 : Env, (∀ h44 : Heap, ((I19 [v41, v42] h44) → (asInt .i64 v15 (fun n45 => ((I11 [v41, v42, (.int .i64 (IntKind.wrap .i64 (n45 + 1)))] h44) ∧ ((m12 [v41, v42, (.int .i64 (IntKind.wrap .i64 (n45 + 1)))] h44) < (m12 [v13, v14, v15] h17))))))))))))) (callV Try.prog (.func (.func 22) #[] #[]) #[(.int .i64 x0), (.int .i64 x1)] h17 (fun v46 h47 => (callV Try.prog (.func (.func 21) #[] #[]) #[v46] h47 (fun v48 h49 => (asSlice v48 (fun o50 k51 k52 => (asSlice v13 (fun o53 k54 k55 => (callV Try.prog (.func (.func 20) #[] #[]) #[(.slice o50 k51 k52), (.slice o53 k54 k55)] h49 (fun v56 h57 => (asBool v56 (fun b58 => (ifB b58 (callV Try.prog (.func (.func 22) #[] #[]) #[(.int .i64 x0), (.int .i64 x1)] h57 (fun v59 h60 => (callV Try.prog (.func (.func 23) #[] #[]) #[v59, (.int .i64 x2)] h60 (fun v61 h62 => (callV Try.prog (.func (.func 21) #[] #[]) #[v61] h62 (fun v63 h64 => (asSlice v63 (fun o65 k66 k67 => (asSlice v14 (fun o68 k69 k70 => (callV Try.prog (.func (.func 20) #[] #[]) #[(.slice o65 k66 k67), (.slice o68 k69 k70)] h64 (fun v71 h72 => (asBool v71 (fun b73 => (ifB b73 (callV Try.prog (.func (.func 19) #[] #[]) #[] h72 (fun v74 h75 => (asBool v74 (fun b76 => (K (.bool b76) h75))))) (K (.bool false) h72)))))))))))))))) (K (.bool false) h57)))))))))))))))))))))))))))))))))))))))))
theorem vc3 (K : Value → Heap → Prop) (h : Heap) (x0 : Int) (x1 : Int) (x2 : Int) : vc Try.prog (bodyOf Try.f3) (retQ Try.prog Try.f3.results.toList (hasRange (bodyOf Try.f3)) h.size K) (envL [(.int .i64 x0), (.int .i64 x1), (.int .i64 x2)]) h = F3 K h x0 x1 x2 := by kernel_rfl
theorem ok3 : fnOk Try.prog Try.f3 3 = true := by kernel_rfl
theorem call3 {K : Value → Heap → Prop} {h : Heap} {x0 : Int} {x1 : Int} {x2 : Int} (H : F3 K h x0 x1 x2) : CallH Try.prog 3 #[(.int .i64 x0), (.int .i64 x1), (.int .i64 x2)] h K :=
  callH_mk Try.func3 ok3 (Eq.mp (vc3 K h x0 x1 x2).symm H)

end Go.Proofs.Ytgladmaagpcffaa
