/- Part 10 of what the proofs of this seat rest on: see the last text of the claim. -/
import Derived.Test.YtlncjcbofgjcfaaQ0f70972fc213
import Derived.Test.YtlncjcbofgjcfaaProg
section
/- The formulas of functions, printed by a program of mine. -/
set_option linter.unusedVariables false
set_option maxRecDepth 100000
namespace Go.Proofs.Ytlncjcbofgjcfaa
/-- jostle/seqs.Some[jostle/api.Oper] -/
def F106 (K : Value → Heap → Prop) (h : Heap) (x0 : Value) (x1 : Value) : Prop :=
  (callV Try.prog (.func (.func 121) #[] #[]) #[x0, x1] (Array.push h (.cells #[(.bool false)] 4)) (fun v0 h1 => (callV Try.prog (.func (.func 120) #[] #[]) #[v0, (.int .i64 1)] h1 (fun v2 h3 => (rangeH Try.prog v2 1 h3 (fun I4 vs5 h6 => (stH h6 ⟨h.size, 0, none⟩ (.bool true) (fun h7 => (I4 .ret h7)))) (fun h8 => (stH h8 ⟨h.size, 0, none⟩ (.bool false) (fun h9 => (ldH h9 ⟨h.size, 0, none⟩ (fun v10 => (∀ h11 : Heap, ((SameD h.size h9 h11) → (K v10 h11)))))))) [(.ret, (fun h12 => (ldH h12 ⟨h.size, 0, none⟩ (fun v13 => (∀ h14 : Heap, ((SameD h.size h12 h14) → (K v13 h14)))))))])))))
theorem vc106 (K : Value → Heap → Prop) (h : Heap) (x0 : Value) (x1 : Value) : vc Try.prog (bodyOf Try.f106) (retQ Try.prog Try.f106.results.toList (hasRange (bodyOf Try.f106)) h.size K) (envL [x0, x1]) h = F106 K h x0 x1 := by kernel_rfl
theorem ok106 : fnOk Try.prog Try.f106 2 = true := by kernel_rfl
theorem call106 {K : Value → Heap → Prop} {h : Heap} {x0 : Value} {x1 : Value} (H : F106 K h x0 x1) : CallH Try.prog 106 #[x0, x1] h K :=
  callH_mk Try.func106 ok106 (Eq.mp (vc106 K h x0 x1).symm H)
/-- jostle/seqs.Of[jostle/api.Oper] -/
def F107 (K : Value → Heap → Prop) (h : Heap) (x0a : Option Addr) (x0l x0c : Nat) : Prop :=
  (K (.func (.func 122) #[] #[(.pointer (some ⟨h.size, 0, none⟩))]) (Array.push h (.cells #[(.slice x0a x0l x0c)] 59)))
theorem vc107 (K : Value → Heap → Prop) (h : Heap) (x0a : Option Addr) (x0l x0c : Nat) : vc Try.prog (bodyOf Try.f107) (retQ Try.prog Try.f107.results.toList (hasRange (bodyOf Try.f107)) h.size K) (envL [(.slice x0a x0l x0c)]) h = F107 K h x0a x0l x0c := by kernel_rfl
theorem ok107 : fnOk Try.prog Try.f107 1 = true := by kernel_rfl
theorem call107 {K : Value → Heap → Prop} {h : Heap} {x0a : Option Addr} {x0l x0c : Nat} (H : F107 K h x0a x0l x0c) : CallH Try.prog 107 #[(.slice x0a x0l x0c)] h K :=
  callH_mk Try.func107 ok107 (Eq.mp (vc107 K h x0a x0l x0c).symm H)
/-- jostle/seqs.First[jostle/api.Oper] -/
def F120 (K : Value → Heap → Prop) (h : Heap) (x0 : Value) (x1 : Int) : Prop :=
  (oneC x0 (exI (fun I0 => ((ldH (Array.push (Array.push h (.cells #[x0] 160)) (.cells #[(.int .i64 x1)] 3)) ⟨h.size, 0, none⟩ (fun v1 => (asFnNil v1 (fun b2 => (ifB b2 (I0 [(.bool true)] (Array.push (Array.push h (.cells #[x0] 160)) (.cells #[(.int .i64 x1)] 3))) (ldH (Array.push (Array.push h (.cells #[x0] 160)) (.cells #[(.int .i64 x1)] 3)) ⟨(Array.push h (.cells #[x0] 160)).size, 0, none⟩ (fun v3 => (asInt .i64 v3 (fun n4 => (I0 [(.bool (decide (n4 < 1)))] (Array.push (Array.push h (.cells #[x0] 160)) (.cells #[(.int .i64 x1)] 3)))))))))))) ∧ (∀ v5 : Value, (∀ g6 : Env, (∀ h7 : Heap, ((I0 [v5] h7) → (asBool v5 (fun b8 => (ifB b8 (K (.func (.func 123) #[] #[]) h7) (K (.func (.func 124) #[] #[(.pointer (some ⟨(Array.push h (.cells #[x0] 160)).size, 0, none⟩)), (.pointer (some ⟨h.size, 0, none⟩))]) h7))))))))))))
theorem vc120 (K : Value → Heap → Prop) (h : Heap) (x0 : Value) (x1 : Int) : vc Try.prog (bodyOf Try.f120) (retQ Try.prog Try.f120.results.toList (hasRange (bodyOf Try.f120)) h.size K) (envL [x0, (.int .i64 x1)]) h = F120 K h x0 x1 := by kernel_rfl
theorem ok120 : fnOk Try.prog Try.f120 2 = true := by kernel_rfl
theorem call120 {K : Value → Heap → Prop} {h : Heap} {x0 : Value} {x1 : Int} (H : F120 K h x0 x1) : CallH Try.prog 120 #[x0, (.int .i64 x1)] h K :=
  callH_mk Try.func120 ok120 (Eq.mp (vc120 K h x0 x1).symm H)
/-- jostle/seqs.Only[jostle/api.Oper] -/
def F121 (K : Value → Heap → Prop) (h : Heap) (x0 : Value) (x1 : Value) : Prop :=
  (oneC x0 (oneC x1 (exI (fun I0 => ((ldH (Array.push (Array.push h (.cells #[x0] 160)) (.cells #[x1] 162)) ⟨h.size, 0, none⟩ (fun v1 => (asFnNil v1 (fun b2 => (ifB b2 (I0 [(.bool true)] (Array.push (Array.push h (.cells #[x0] 160)) (.cells #[x1] 162))) (ldH (Array.push (Array.push h (.cells #[x0] 160)) (.cells #[x1] 162)) ⟨(Array.push h (.cells #[x0] 160)).size, 0, none⟩ (fun v3 => (asFnNil v3 (fun b4 => (I0 [(.bool b4)] (Array.push (Array.push h (.cells #[x0] 160)) (.cells #[x1] 162)))))))))))) ∧ (∀ v5 : Value, (∀ g6 : Env, (∀ h7 : Heap, ((I0 [v5] h7) → (asBool v5 (fun b8 => (ifB b8 (K (.func (.func 123) #[] #[]) h7) (K (.func (.func 125) #[] #[(.pointer (some ⟨h.size, 0, none⟩)), (.pointer (some ⟨(Array.push h (.cells #[x0] 160)).size, 0, none⟩))]) h7)))))))))))))
theorem vc121 (K : Value → Heap → Prop) (h : Heap) (x0 : Value) (x1 : Value) : vc Try.prog (bodyOf Try.f121) (retQ Try.prog Try.f121.results.toList (hasRange (bodyOf Try.f121)) h.size K) (envL [x0, x1]) h = F121 K h x0 x1 := by kernel_rfl
theorem ok121 : fnOk Try.prog Try.f121 2 = true := by kernel_rfl
theorem call121 {K : Value → Heap → Prop} {h : Heap} {x0 : Value} {x1 : Value} (H : F121 K h x0 x1) : CallH Try.prog 121 #[x0, x1] h K :=
  callH_mk Try.func121 ok121 (Eq.mp (vc121 K h x0 x1).symm H)
/-- jostle/seqs.Of[jostle/api.Oper]$1 -/
def F122 (K : Value → Heap → Prop) (h : Heap) (x0 : Value) (c0 : Value) : Prop :=
  (asPtr c0 (fun a0 => (ldH h a0 (fun v1 => (asSlice v1 (fun o2 k3 k4 => (exI (fun I5 => (exM (fun m6 => ((I5 [(.int .i64 0)] h) ∧ (∀ v7 : Value, (∀ g8 : Env, (∀ h9 : Heap, ((I5 [v7] h9) → (asInt .i64 v7 (fun n10 => (ifB (decide (n10 < ((k3 : Nat) : Int))) (asI v7 (fun n11 => (((0 : Int) ≤ n11) ∧ (((n11 : Int) < ((k3 : Nat) : Int)) ∧ (asPtr (.pointer o2) (fun a12 => (ldH h9 (Addr.add a12 (n11.toNat * 9)) (fun v13 => (ldH h9 (Addr.add (Addr.add a12 (n11.toNat * 9)) 1) (fun v14 => (ldH h9 (Addr.add (Addr.add a12 (n11.toNat * 9)) 2) (fun v15 => (ldH h9 (Addr.add (Addr.add a12 (n11.toNat * 9)) 3) (fun v16 => (ldH h9 (Addr.add (Addr.add a12 (n11.toNat * 9)) 4) (fun v17 => (ldH h9 (Addr.add (Addr.add a12 (n11.toNat * 9)) 5) (fun v18 => (ldH h9 (Addr.add (Addr.add a12 (n11.toNat * 9)) 6) (fun v19 => (ldH h9 (Addr.add (Addr.add a12 (n11.toNat * 9)) 7) (fun v20 => (ldH h9 (Addr.add (Addr.add a12 (n11.toNat * 9)) 8) (fun v21 => (stH (Array.push h9 (.cells #[(.int .i64 0), (.int .i64 0), (.int .u32 0), (.int .u32 0), (.int .i64 0), (.int .u32 0), (.int .u32 0), (.int .i64 0), (.int .i64 0)] 65)) ⟨h9.size, 0, none⟩ v13 (fun h22 => (stH h22 ⟨h9.size, 1, none⟩ v14 (fun h23 => (stH h23 ⟨h9.size, 2, none⟩ v15 (fun h24 => (stH h24 ⟨h9.size, 3, none⟩ v16 (fun h25 => (stH h25 ⟨h9.size, 4, none⟩ v17 (fun h26 => (stH h26 ⟨h9.size, 5, none⟩ v18 (fun h27 => (stH h27 ⟨h9.size, 6, none⟩ v19 (fun h28 => (stH h28 ⟨h9.size, 7, none⟩ v20 (fun h29 => (stH h29 ⟨h9.size, 8, none⟩ v21 (fun h30 => (ldH h30 ⟨h9.size, 0, none⟩ (fun v31 => (ldH h30 ⟨h9.size, 1, none⟩ (fun v32 => (ldH h30 ⟨h9.size, 2, none⟩ (fun v33 => (ldH h30 ⟨h9.size, 3, none⟩ (fun v34 => (ldH h30 ⟨h9.size, 4, none⟩ (fun v35 => (ldH h30 ⟨h9.size, 5, none⟩ (fun v36 => (ldH h30 ⟨h9.size, 6, none⟩ (fun v37 => (ldH h30 ⟨h9.size, 7, none⟩ (fun v38 => (ldH h30 ⟨h9.size, 8, none⟩ (fun v39 => (callV Try.prog x0 #[(.agg #[v31, v32, v33, v34, v35, v36, v37, v38, v39])] h30 (fun v40 h41 => (asBool v40 (fun b42 => (ifB (!b42) (K (.tuple #[]) h41) (asInt .i64 v7 (fun n43 => ((I5 [(.int .i64 (IntKind.wrap .i64 (n43 + 1)))] h41) ∧ ((m6 [(.int .i64 (IntKind.wrap .i64 (n43 + 1)))] h41) < (m6 [v7] h9)))))))))))))))))))))))))))))))))))))))))))))))))))))))))))))))))))))) (K (.tuple #[]) h9)))))))))))))))))))
theorem vc122 (K : Value → Heap → Prop) (h : Heap) (x0 : Value) (c0 : Value) : vc Try.prog (bodyOf Try.f122) (retQ Try.prog Try.f122.results.toList (hasRange (bodyOf Try.f122)) h.size K) (envL [x0, c0]) h = F122 K h x0 c0 := by kernel_rfl
theorem ok122 : fnOk Try.prog Try.f122 2 = true := by kernel_rfl
theorem call122 {K : Value → Heap → Prop} {h : Heap} {x0 : Value} {c0 : Value} (H : F122 K h x0 c0) : CallH Try.prog 122 #[x0, c0] h K :=
  callH_mk Try.func122 ok122 (Eq.mp (vc122 K h x0 c0).symm H)
/-- jostle/seqs.none[jostle/api.Oper] -/
def F123 (K : Value → Heap → Prop) (h : Heap) (x0 : Value) : Prop :=
  (K (.tuple #[]) h)
theorem vc123 (K : Value → Heap → Prop) (h : Heap) (x0 : Value) : vc Try.prog (bodyOf Try.f123) (retQ Try.prog Try.f123.results.toList (hasRange (bodyOf Try.f123)) h.size K) (envL [x0]) h = F123 K h x0 := by kernel_rfl
theorem ok123 : fnOk Try.prog Try.f123 1 = true := by kernel_rfl
theorem call123 {K : Value → Heap → Prop} {h : Heap} {x0 : Value} (H : F123 K h x0) : CallH Try.prog 123 #[x0] h K :=
  callH_mk Try.func123 ok123 (Eq.mp (vc123 K h x0).symm H)
/-- jostle/seqs.First[jostle/api.Oper]$1 -/
def F124 (K : Value → Heap → Prop) (h : Heap) (x0 : Value) (c0 : Value) (c1 : Value) : Prop :=
  (oneC x0 (asPtr c0 (fun a0 => (ldH (Array.push h (.cells #[x0] 162)) a0 (fun v1 => (asInt .i64 v1 (fun n2 => (stH (Array.push (Array.push h (.cells #[x0] 162)) (.cells #[(.int .i64 0)] 3)) ⟨(Array.push h (.cells #[x0] 162)).size, 0, none⟩ (.int .i64 n2) (fun h3 => (asPtr c1 (fun a4 => (ldH h3 a4 (fun v5 => (rangeH Try.prog v5 1 h3 (fun I6 vs7 h8 => (asAgg (vs7.getD 0 (.tuple #[])) (fun vs9 => (sizeH vs9 9 (elemH vs9 0 (fun v10 => (elemH vs9 1 (fun v11 => (elemH vs9 2 (fun v12 => (elemH vs9 3 (fun v13 => (elemH vs9 4 (fun v14 => (elemH vs9 5 (fun v15 => (elemH vs9 6 (fun v16 => (elemH vs9 7 (fun v17 => (elemH vs9 8 (fun v18 => (oneC v10 (oneC v11 (oneC v12 (oneC v13 (oneC v14 (oneC v15 (oneC v16 (oneC v17 (oneC v18 (ldH (Array.push h8 (.cells #[v10, v11, v12, v13, v14, v15, v16, v17, v18] 65)) ⟨(Array.push h (.cells #[x0] 162)).size, 0, none⟩ (fun v19 => (asInt .i64 v19 (fun n20 => (stH (Array.push h8 (.cells #[v10, v11, v12, v13, v14, v15, v16, v17, v18] 65)) ⟨(Array.push h (.cells #[x0] 162)).size, 0, none⟩ (.int .i64 (IntKind.wrap .i64 (n20 - 1))) (fun h21 => (exI (fun I22 => ((ldH h21 ⟨h.size, 0, none⟩ (fun v23 => (ldH h21 ⟨h8.size, 0, none⟩ (fun v24 => (ldH h21 ⟨h8.size, 1, none⟩ (fun v25 => (ldH h21 ⟨h8.size, 2, none⟩ (fun v26 => (ldH h21 ⟨h8.size, 3, none⟩ (fun v27 => (ldH h21 ⟨h8.size, 4, none⟩ (fun v28 => (ldH h21 ⟨h8.size, 5, none⟩ (fun v29 => (ldH h21 ⟨h8.size, 6, none⟩ (fun v30 => (ldH h21 ⟨h8.size, 7, none⟩ (fun v31 => (ldH h21 ⟨h8.size, 8, none⟩ (fun v32 => (callV Try.prog v23 #[(.agg #[v24, v25, v26, v27, v28, v29, v30, v31, v32])] h21 (fun v33 h34 => (asBool v33 (fun b35 => (ifB (!b35) (I22 [(.bool true)] h34) (ldH h34 ⟨(Array.push h (.cells #[x0] 162)).size, 0, none⟩ (fun v36 => (asInt .i64 v36 (fun n37 => (I22 [(.bool (n37 == 0))] h34)))))))))))))))))))))))))))))) ∧ (∀ v38 : Value, (∀ g39 : Env, (∀ h40 : Heap, ((I22 [v38] h40) → (asBool v38 (fun b41 => (ifB b41 (I6 .ret h40) (I6 .normal h40)))))))))))))))))))))))))))))))))))))))))))))))) (fun h42 => (∀ h43 : Heap, ((SameD h.size h42 h43) → (K (.tuple #[]) h43)))) [(.ret, (fun h44 => (∀ h45 : Heap, ((SameD h.size h44 h45) → (K (.tuple #[]) h45)))))]))))))))))))))
theorem vc124 (K : Value → Heap → Prop) (h : Heap) (x0 : Value) (c0 : Value) (c1 : Value) : vc Try.prog (bodyOf Try.f124) (retQ Try.prog Try.f124.results.toList (hasRange (bodyOf Try.f124)) h.size K) (envL [x0, c0, c1]) h = F124 K h x0 c0 c1 := by kernel_rfl
theorem ok124 : fnOk Try.prog Try.f124 3 = true := by kernel_rfl
theorem call124 {K : Value → Heap → Prop} {h : Heap} {x0 : Value} {c0 : Value} {c1 : Value} (H : F124 K h x0 c0 c1) : CallH Try.prog 124 #[x0, c0, c1] h K :=
  callH_mk Try.func124 ok124 (Eq.mp (vc124 K h x0 c0 c1).symm H)
/-- jostle/seqs.Only[jostle/api.Oper]$1 -/
def F125 (K : Value → Heap → Prop) (h : Heap) (x0 : Value) (c0 : Value) (c1 : Value) : Prop :=
  (oneC x0 (asPtr c0 (fun a0 => (ldH (Array.push h (.cells #[x0] 162)) a0 (fun v1 => (rangeH Try.prog v1 1 (Array.push h (.cells #[x0] 162)) (fun I2 vs3 h4 => (asAgg (vs3.getD 0 (.tuple #[])) (fun vs5 => (sizeH vs5 9 (elemH vs5 0 (fun v6 => (elemH vs5 1 (fun v7 => (elemH vs5 2 (fun v8 => (elemH vs5 3 (fun v9 => (elemH vs5 4 (fun v10 => (elemH vs5 5 (fun v11 => (elemH vs5 6 (fun v12 => (elemH vs5 7 (fun v13 => (elemH vs5 8 (fun v14 => (oneC v6 (oneC v7 (oneC v8 (oneC v9 (oneC v10 (oneC v11 (oneC v12 (oneC v13 (oneC v14 (exI (fun I15 => ((asPtr c1 (fun a16 => (ldH (Array.push h4 (.cells #[v6, v7, v8, v9, v10, v11, v12, v13, v14] 65)) a16 (fun v17 => (ldH (Array.push h4 (.cells #[v6, v7, v8, v9, v10, v11, v12, v13, v14] 65)) ⟨h4.size, 0, none⟩ (fun v18 => (ldH (Array.push h4 (.cells #[v6, v7, v8, v9, v10, v11, v12, v13, v14] 65)) ⟨h4.size, 1, none⟩ (fun v19 => (ldH (Array.push h4 (.cells #[v6, v7, v8, v9, v10, v11, v12, v13, v14] 65)) ⟨h4.size, 2, none⟩ (fun v20 => (ldH (Array.push h4 (.cells #[v6, v7, v8, v9, v10, v11, v12, v13, v14] 65)) ⟨h4.size, 3, none⟩ (fun v21 => (ldH (Array.push h4 (.cells #[v6, v7, v8, v9, v10, v11, v12, v13, v14] 65)) ⟨h4.size, 4, none⟩ (fun v22 => (ldH (Array.push h4 (.cells #[v6, v7, v8, v9, v10, v11, v12, v13, v14] 65)) ⟨h4.size, 5, none⟩ (fun v23 => (ldH (Array.push h4 (.cells #[v6, v7, v8, v9, v10, v11, v12, v13, v14] 65)) ⟨h4.size, 6, none⟩ (fun v24 => (ldH (Array.push h4 (.cells #[v6, v7, v8, v9, v10, v11, v12, v13, v14] 65)) ⟨h4.size, 7, none⟩ (fun v25 => (ldH (Array.push h4 (.cells #[v6, v7, v8, v9, v10, v11, v12, v13, v14] 65)) ⟨h4.size, 8, none⟩ (fun v26 => (callV Try.prog v17 #[(.agg #[v18, v19, v20, v21, v22, v23, v24, v25, v26])] (Array.push h4 (.cells #[v6, v7, v8, v9, v10, v11, v12, v13, v14] 65)) (fun v27 h28 => (asBool v27 (fun b29 => (ifB b29 (ldH h28 ⟨h.size, 0, none⟩ (fun v30 => (ldH h28 ⟨h4.size, 0, none⟩ (fun v31 => (ldH h28 ⟨h4.size, 1, none⟩ (fun v32 => (ldH h28 ⟨h4.size, 2, none⟩ (fun v33 => (ldH h28 ⟨h4.size, 3, none⟩ (fun v34 => (ldH h28 ⟨h4.size, 4, none⟩ (fun v35 => (ldH h28 ⟨h4.size, 5, none⟩ (fun v36 => (ldH h28 ⟨h4.size, 6, none⟩ (fun v37 => (ldH h28 ⟨h4.size, 7, none⟩ (fun v38 => (ldH h28 ⟨h4.size, 8, none⟩ (fun v39 => (callV Try.prog v30 #[(.agg #[v31, v32, v33, v34, v35, v36, v37, v38, v39])] h28 (fun v40 h41 => (asBool v40 (fun b42 => (I15 [(.bool (!b42))] h41))))))))))))))))))))))))) (I15 [(.bool false)] h28)))))))))))))))))))))))))))) ∧ (∀ v43 : Value, (∀ g44 : Env, (∀ h45 : Heap, ((I15 [v43] h45) → (asBool v43 (fun b46 => (ifB b46 (I2 .ret h45) (I2 .normal h45)))))))))))))))))))))))))))))))))))))))))) (fun h47 => (∀ h48 : Heap, ((SameD h.size h47 h48) → (K (.tuple #[]) h48)))) [(.ret, (fun h49 => (∀ h50 : Heap, ((SameD h.size h49 h50) → (K (.tuple #[]) h50)))))]))))))
theorem vc125 (K : Value → Heap → Prop) (h : Heap) (x0 : Value) (c0 : Value) (c1 : Value) : vc Try.prog (bodyOf Try.f125) (retQ Try.prog Try.f125.results.toList (hasRange (bodyOf Try.f125)) h.size K) (envL [x0, c0, c1]) h = F125 K h x0 c0 c1 := by kernel_rfl
theorem ok125 : fnOk Try.prog Try.f125 3 = true := by kernel_rfl
theorem call125 {K : Value → Heap → Prop} {h : Heap} {x0 : Value} {c0 : Value} {c1 : Value} (H : F125 K h x0 c0 c1) : CallH Try.prog 125 #[x0, c0, c1] h K :=
  callH_mk Try.func125 ok125 (Eq.mp (vc125 K h x0 c0 c1).symm H)
/-- jostle/weak.quiet -/
def F105 (K : Value → Heap → Prop) (h : Heap) (x0a : Option Addr) (x0l x0c : Nat) (x1 : Int) : Prop :=
  (callV Try.prog (.func (.func 107) #[] #[]) #[(.slice x0a x0l x0c)] (Array.push h (.cells #[(.int .i64 x1)] 3)) (fun v0 h1 => (callV Try.prog (.func (.func 106) #[] #[]) #[v0, (.func (.func 119) #[] #[(.pointer (some ⟨h.size, 0, none⟩))])] h1 (fun v2 h3 => (asBool v2 (fun b4 => (K (.bool (!b4)) h3)))))))
theorem vc105 (K : Value → Heap → Prop) (h : Heap) (x0a : Option Addr) (x0l x0c : Nat) (x1 : Int) : vc Try.prog (bodyOf Try.f105) (retQ Try.prog Try.f105.results.toList (hasRange (bodyOf Try.f105)) h.size K) (envL [(.slice x0a x0l x0c), (.int .i64 x1)]) h = F105 K h x0a x0l x0c x1 := by kernel_rfl
theorem ok105 : fnOk Try.prog Try.f105 2 = true := by kernel_rfl
theorem call105 {K : Value → Heap → Prop} {h : Heap} {x0a : Option Addr} {x0l x0c : Nat} {x1 : Int} (H : F105 K h x0a x0l x0c x1) : CallH Try.prog 105 #[(.slice x0a x0l x0c), (.int .i64 x1)] h K :=
  callH_mk Try.func105 ok105 (Eq.mp (vc105 K h x0a x0l x0c x1).symm H)
/-- jostle/weak.quiet$1 -/
def F119 (K : Value → Heap → Prop) (h : Heap) (x0_0 : Int) (x0_1_0 : Int) (x0_1_1 : Int) (x0_1_2 : Int) (x0_2_0 : Int) (x0_2_1 : Int) (x0_2_2 : Int) (x0_3 : Int) (x0_4 : Int) (c0 : Value) : Prop :=
  (ldH (Array.push h (.cells #[(.int .i64 x0_0), (.int .i64 x0_1_0), (.int .u32 x0_1_1), (.int .u32 x0_1_2), (.int .i64 x0_2_0), (.int .u32 x0_2_1), (.int .u32 x0_2_2), (.int .i64 x0_3), (.int .i64 x0_4)] 65)) ⟨h.size, 7, none⟩ (fun v0 => (asInt .i64 v0 (fun n1 => (asPtr c0 (fun a2 => (ldH (Array.push h (.cells #[(.int .i64 x0_0), (.int .i64 x0_1_0), (.int .u32 x0_1_1), (.int .u32 x0_1_2), (.int .i64 x0_2_0), (.int .u32 x0_2_1), (.int .u32 x0_2_2), (.int .i64 x0_3), (.int .i64 x0_4)] 65)) a2 (fun v3 => (asInt .i64 v3 (fun n4 => (ifB (decide (n1 ≤ n4)) (ldH (Array.push h (.cells #[(.int .i64 x0_0), (.int .i64 x0_1_0), (.int .u32 x0_1_1), (.int .u32 x0_1_2), (.int .i64 x0_2_0), (.int .u32 x0_2_1), (.int .u32 x0_2_2), (.int .i64 x0_3), (.int .i64 x0_4)] 65)) ⟨h.size, 8, none⟩ (fun v5 => (asInt .i64 v5 (fun n6 => (ifB (decide (n6 < 0)) (K (.bool true) (Array.push h (.cells #[(.int .i64 x0_0), (.int .i64 x0_1_0), (.int .u32 x0_1_1), (.int .u32 x0_1_2), (.int .i64 x0_2_0), (.int .u32 x0_2_1), (.int .u32 x0_2_2), (.int .i64 x0_3), (.int .i64 x0_4)] 65))) (ldH (Array.push h (.cells #[(.int .i64 x0_0), (.int .i64 x0_1_0), (.int .u32 x0_1_1), (.int .u32 x0_1_2), (.int .i64 x0_2_0), (.int .u32 x0_2_1), (.int .u32 x0_2_2), (.int .i64 x0_3), (.int .i64 x0_4)] 65)) ⟨h.size, 8, none⟩ (fun v7 => (asInt .i64 v7 (fun n8 => (asPtr c0 (fun a9 => (ldH (Array.push h (.cells #[(.int .i64 x0_0), (.int .i64 x0_1_0), (.int .u32 x0_1_1), (.int .u32 x0_1_2), (.int .i64 x0_2_0), (.int .u32 x0_2_1), (.int .u32 x0_2_2), (.int .i64 x0_3), (.int .i64 x0_4)] 65)) a9 (fun v10 => (asInt .i64 v10 (fun n11 => (K (.bool (decide (n8 > n11))) (Array.push h (.cells #[(.int .i64 x0_0), (.int .i64 x0_1_0), (.int .u32 x0_1_1), (.int .u32 x0_1_2), (.int .i64 x0_2_0), (.int .u32 x0_2_1), (.int .u32 x0_2_2), (.int .i64 x0_3), (.int .i64 x0_4)] 65)))))))))))))))))) (K (.bool false) (Array.push h (.cells #[(.int .i64 x0_0), (.int .i64 x0_1_0), (.int .u32 x0_1_1), (.int .u32 x0_1_2), (.int .i64 x0_2_0), (.int .u32 x0_2_1), (.int .u32 x0_2_2), (.int .i64 x0_3), (.int .i64 x0_4)] 65))))))))))))))
theorem vc119 (K : Value → Heap → Prop) (h : Heap) (x0_0 : Int) (x0_1_0 : Int) (x0_1_1 : Int) (x0_1_2 : Int) (x0_2_0 : Int) (x0_2_1 : Int) (x0_2_2 : Int) (x0_3 : Int) (x0_4 : Int) (c0 : Value) : vc Try.prog (bodyOf Try.f119) (retQ Try.prog Try.f119.results.toList (hasRange (bodyOf Try.f119)) h.size K) (envL [(.agg #[(.int .i64 x0_0), (.int .i64 x0_1_0), (.int .u32 x0_1_1), (.int .u32 x0_1_2), (.int .i64 x0_2_0), (.int .u32 x0_2_1), (.int .u32 x0_2_2), (.int .i64 x0_3), (.int .i64 x0_4)]), c0]) h = F119 K h x0_0 x0_1_0 x0_1_1 x0_1_2 x0_2_0 x0_2_1 x0_2_2 x0_3 x0_4 c0 := by kernel_rfl
theorem ok119 : fnOk Try.prog Try.f119 2 = true := by kernel_rfl
theorem call119 {K : Value → Heap → Prop} {h : Heap} {x0_0 : Int} {x0_1_0 : Int} {x0_1_1 : Int} {x0_1_2 : Int} {x0_2_0 : Int} {x0_2_1 : Int} {x0_2_2 : Int} {x0_3 : Int} {x0_4 : Int} {c0 : Value} (H : F119 K h x0_0 x0_1_0 x0_1_1 x0_1_2 x0_2_0 x0_2_1 x0_2_2 x0_3 x0_4 c0) : CallH Try.prog 119 #[(.agg #[(.int .i64 x0_0), (.int .i64 x0_1_0), (.int .u32 x0_1_1), (.int .u32 x0_1_2), (.int .i64 x0_2_0), (.int .u32 x0_2_1), (.int .u32 x0_2_2), (.int .i64 x0_3), (.int .i64 x0_4)]), c0] h K :=
  callH_mk Try.func119 ok119 (Eq.mp (vc119 K h x0_0 x0_1_0 x0_1_1 x0_1_2 x0_2_0 x0_2_1 x0_2_2 x0_3 x0_4 c0).symm H)
/-- jostle/weak.apart -/
def F88 (K : Value → Heap → Prop) (h : Heap) (x0a : Option Addr) (x0l x0c : Nat) (x1_0 : Int) (x1_1_0 : Int) (x1_1_1 : Int) (x1_1_2 : Int) (x1_2_0 : Int) (x1_2_1 : Int) (x1_2_2 : Int) (x1_3 : Int) (x1_4 : Int) (x2_0 : Int) (x2_1_0 : Int) (x2_1_1 : Int) (x2_1_2 : Int) (x2_2_0 : Int) (x2_2_1 : Int) (x2_2_2 : Int) (x2_3 : Int) (x2_4 : Int) : Prop :=
  (exI (fun I0 => ((ldH (Array.push (Array.push (Array.push h (.cells #[(.slice x0a x0l x0c)] 59)) (.cells #[(.int .i64 x1_0), (.int .i64 x1_1_0), (.int .u32 x1_1_1), (.int .u32 x1_1_2), (.int .i64 x1_2_0), (.int .u32 x1_2_1), (.int .u32 x1_2_2), (.int .i64 x1_3), (.int .i64 x1_4)] 65)) (.cells #[(.int .i64 x2_0), (.int .i64 x2_1_0), (.int .u32 x2_1_1), (.int .u32 x2_1_2), (.int .i64 x2_2_0), (.int .u32 x2_2_1), (.int .u32 x2_2_2), (.int .i64 x2_3), (.int .i64 x2_4)] 65)) ⟨(Array.push h (.cells #[(.slice x0a x0l x0c)] 59)).size, 8, none⟩ (fun v1 => (asInt .i64 v1 (fun n2 => (ifB (decide (n2 < 0)) (I0 [(.bool true)] (Array.push (Array.push (Array.push h (.cells #[(.slice x0a x0l x0c)] 59)) (.cells #[(.int .i64 x1_0), (.int .i64 x1_1_0), (.int .u32 x1_1_1), (.int .u32 x1_1_2), (.int .i64 x1_2_0), (.int .u32 x1_2_1), (.int .u32 x1_2_2), (.int .i64 x1_3), (.int .i64 x1_4)] 65)) (.cells #[(.int .i64 x2_0), (.int .i64 x2_1_0), (.int .u32 x2_1_1), (.int .u32 x2_1_2), (.int .i64 x2_2_0), (.int .u32 x2_2_1), (.int .u32 x2_2_2), (.int .i64 x2_3), (.int .i64 x2_4)] 65))) (ldH (Array.push (Array.push (Array.push h (.cells #[(.slice x0a x0l x0c)] 59)) (.cells #[(.int .i64 x1_0), (.int .i64 x1_1_0), (.int .u32 x1_1_1), (.int .u32 x1_1_2), (.int .i64 x1_2_0), (.int .u32 x1_2_1), (.int .u32 x1_2_2), (.int .i64 x1_3), (.int .i64 x1_4)] 65)) (.cells #[(.int .i64 x2_0), (.int .i64 x2_1_0), (.int .u32 x2_1_1), (.int .u32 x2_1_2), (.int .i64 x2_2_0), (.int .u32 x2_2_1), (.int .u32 x2_2_2), (.int .i64 x2_3), (.int .i64 x2_4)] 65)) ⟨(Array.push h (.cells #[(.slice x0a x0l x0c)] 59)).size, 8, none⟩ (fun v3 => (asInt .i64 v3 (fun n4 => (ldH (Array.push (Array.push (Array.push h (.cells #[(.slice x0a x0l x0c)] 59)) (.cells #[(.int .i64 x1_0), (.int .i64 x1_1_0), (.int .u32 x1_1_1), (.int .u32 x1_1_2), (.int .i64 x1_2_0), (.int .u32 x1_2_1), (.int .u32 x1_2_2), (.int .i64 x1_3), (.int .i64 x1_4)] 65)) (.cells #[(.int .i64 x2_0), (.int .i64 x2_1_0), (.int .u32 x2_1_1), (.int .u32 x2_1_2), (.int .i64 x2_2_0), (.int .u32 x2_2_1), (.int .u32 x2_2_2), (.int .i64 x2_3), (.int .i64 x2_4)] 65)) ⟨(Array.push (Array.push h (.cells #[(.slice x0a x0l x0c)] 59)) (.cells #[(.int .i64 x1_0), (.int .i64 x1_1_0), (.int .u32 x1_1_1), (.int .u32 x1_1_2), (.int .i64 x1_2_0), (.int .u32 x1_2_1), (.int .u32 x1_2_2), (.int .i64 x1_3), (.int .i64 x1_4)] 65)).size, 7, none⟩ (fun v5 => (asInt .i64 v5 (fun n6 => (I0 [(.bool (decide (n4 ≥ n6)))] (Array.push (Array.push (Array.push h (.cells #[(.slice x0a x0l x0c)] 59)) (.cells #[(.int .i64 x1_0), (.int .i64 x1_1_0), (.int .u32 x1_1_1), (.int .u32 x1_1_2), (.int .i64 x1_2_0), (.int .u32 x1_2_1), (.int .u32 x1_2_2), (.int .i64 x1_3), (.int .i64 x1_4)] 65)) (.cells #[(.int .i64 x2_0), (.int .i64 x2_1_0), (.int .u32 x2_1_1), (.int .u32 x2_1_2), (.int .i64 x2_2_0), (.int .u32 x2_2_1), (.int .u32 x2_2_2), (.int .i64 x2_3), (.int .i64 x2_4)] 65)))))))))))))))) ∧ (∀ v7 : Value, (∀ g8 : Env, (∀ h9 : Heap, ((I0 [v7] h9) → (asBool v7 (fun b10 => (ifB b10 (K (.bool false) h9) (ldH h9 ⟨h.size, 0, none⟩ (fun v11 => (asSlice v11 (fun o12 k13 k14 => (ldH h9 ⟨(Array.push h (.cells #[(.slice x0a x0l x0c)] 59)).size, 8, none⟩ (fun v15 => (asInt .i64 v15 (fun n16 => (callV Try.prog (.func (.func 105) #[] #[]) #[(.slice o12 k13 k14), (.int .i64 n16)] h9 (fun v17 h18 => (asBool v17 (fun b19 => (ifB b19 (K (.bool true) h18) (ldH h18 ⟨h.size, 0, none⟩ (fun v20 => (asSlice v20 (fun o21 k22 k23 => (callV Try.prog (.func (.func 107) #[] #[]) #[(.slice o21 k22 k23)] h18 (fun v24 h25 => (callV Try.prog (.func (.func 106) #[] #[]) #[v24, (.func (.func 108) #[] #[(.pointer (some ⟨(Array.push h (.cells #[(.slice x0a x0l x0c)] 59)).size, 0, none⟩)), (.pointer (some ⟨(Array.push (Array.push h (.cells #[(.slice x0a x0l x0c)] 59)) (.cells #[(.int .i64 x1_0), (.int .i64 x1_1_0), (.int .u32 x1_1_1), (.int .u32 x1_1_2), (.int .i64 x1_2_0), (.int .u32 x1_2_1), (.int .u32 x1_2_2), (.int .i64 x1_3), (.int .i64 x1_4)] 65)).size, 0, none⟩)), (.pointer (some ⟨h.size, 0, none⟩))])] h25 (fun v26 h27 => (asBool v26 (fun b28 => (K (.bool b28) h27))))))))))))))))))))))))))))))))))
theorem vc88 (K : Value → Heap → Prop) (h : Heap) (x0a : Option Addr) (x0l x0c : Nat) (x1_0 : Int) (x1_1_0 : Int) (x1_1_1 : Int) (x1_1_2 : Int) (x1_2_0 : Int) (x1_2_1 : Int) (x1_2_2 : Int) (x1_3 : Int) (x1_4 : Int) (x2_0 : Int) (x2_1_0 : Int) (x2_1_1 : Int) (x2_1_2 : Int) (x2_2_0 : Int) (x2_2_1 : Int) (x2_2_2 : Int) (x2_3 : Int) (x2_4 : Int) : vc Try.prog (bodyOf Try.f88) (retQ Try.prog Try.f88.results.toList (hasRange (bodyOf Try.f88)) h.size K) (envL [(.slice x0a x0l x0c), (.agg #[(.int .i64 x1_0), (.int .i64 x1_1_0), (.int .u32 x1_1_1), (.int .u32 x1_1_2), (.int .i64 x1_2_0), (.int .u32 x1_2_1), (.int .u32 x1_2_2), (.int .i64 x1_3), (.int .i64 x1_4)]), (.agg #[(.int .i64 x2_0), (.int .i64 x2_1_0), (.int .u32 x2_1_1), (.int .u32 x2_1_2), (.int .i64 x2_2_0), (.int .u32 x2_2_1), (.int .u32 x2_2_2), (.int .i64 x2_3), (.int .i64 x2_4)])]) h = F88 K h x0a x0l x0c x1_0 x1_1_0 x1_1_1 x1_1_2 x1_2_0 x1_2_1 x1_2_2 x1_3 x1_4 x2_0 x2_1_0 x2_1_1 x2_1_2 x2_2_0 x2_2_1 x2_2_2 x2_3 x2_4 := by kernel_rfl
theorem ok88 : fnOk Try.prog Try.f88 3 = true := by kernel_rfl
theorem call88 {K : Value → Heap → Prop} {h : Heap} {x0a : Option Addr} {x0l x0c : Nat} {x1_0 : Int} {x1_1_0 : Int} {x1_1_1 : Int} {x1_1_2 : Int} {x1_2_0 : Int} {x1_2_1 : Int} {x1_2_2 : Int} {x1_3 : Int} {x1_4 : Int} {x2_0 : Int} {x2_1_0 : Int} {x2_1_1 : Int} {x2_1_2 : Int} {x2_2_0 : Int} {x2_2_1 : Int} {x2_2_2 : Int} {x2_3 : Int} {x2_4 : Int} (H : F88 K h x0a x0l x0c x1_0 x1_1_0 x1_1_1 x1_1_2 x1_2_0 x1_2_1 x1_2_2 x1_3 x1_4 x2_0 x2_1_0 x2_1_1 x2_1_2 x2_2_0 x2_2_1 x2_2_2 x2_3 x2_4) : CallH Try.prog 88 #[(.slice x0a x0l x0c), (.agg #[(.int .i64 x1_0), (.int .i64 x1_1_0), (.int .u32 x1_1_1), (.int .u32 x1_1_2), (.int .i64 x1_2_0), (.int .u32 x1_2_1), (.int .u32 x1_2_2), (.int .i64 x1_3), (.int .i64 x1_4)]), (.agg #[(.int .i64 x2_0), (.int .i64 x2_1_0), (.int .u32 x2_1_1), (.int .u32 x2_1_2), (.int .i64 x2_2_0), (.int .u32 x2_2_1), (.int .u32 x2_2_2), (.int .i64 x2_3), (.int .i64 x2_4)])] h K :=
  callH_mk Try.func88 ok88 (Eq.mp (vc88 K h x0a x0l x0c x1_0 x1_1_0 x1_1_1 x1_1_2 x1_2_0 x1_2_1 x1_2_2 x1_3 x1_4 x2_0 x2_1_0 x2_1_1 x2_1_2 x2_2_0 x2_2_1 x2_2_2 x2_3 x2_4).symm H)
/-- jostle/weak.apart$1 -/
def F108 (K : Value → Heap → Prop) (h : Heap) (x0_0 : Int) (x0_1_0 : Int) (x0_1_1 : Int) (x0_1_2 : Int) (x0_2_0 : Int) (x0_2_1 : Int) (x0_2_2 : Int) (x0_3 : Int) (x0_4 : Int) (c0 : Value) (c1 : Value) (c2 : Value) : Prop :=
  (ldH (Array.push h (.cells #[(.int .i64 x0_0), (.int .i64 x0_1_0), (.int .u32 x0_1_1), (.int .u32 x0_1_2), (.int .i64 x0_2_0), (.int .u32 x0_2_1), (.int .u32 x0_2_2), (.int .i64 x0_3), (.int .i64 x0_4)] 65)) ⟨h.size, 8, none⟩ (fun v0 => (asInt .i64 v0 (fun n1 => (asPtr c0 (fun a2 => (ldH (Array.push h (.cells #[(.int .i64 x0_0), (.int .i64 x0_1_0), (.int .u32 x0_1_1), (.int .u32 x0_1_2), (.int .i64 x0_2_0), (.int .u32 x0_2_1), (.int .u32 x0_2_2), (.int .i64 x0_3), (.int .i64 x0_4)] 65)) (Addr.add a2 8) (fun v3 => (asInt .i64 v3 (fun n4 => (ifB (decide (n1 ≥ n4)) (ldH (Array.push h (.cells #[(.int .i64 x0_0), (.int .i64 x0_1_0), (.int .u32 x0_1_1), (.int .u32 x0_1_2), (.int .i64 x0_2_0), (.int .u32 x0_2_1), (.int .u32 x0_2_2), (.int .i64 x0_3), (.int .i64 x0_4)] 65)) ⟨h.size, 8, none⟩ (fun v5 => (asInt .i64 v5 (fun n6 => (asPtr c1 (fun a7 => (ldH (Array.push h (.cells #[(.int .i64 x0_0), (.int .i64 x0_1_0), (.int .u32 x0_1_1), (.int .u32 x0_1_2), (.int .i64 x0_2_0), (.int .u32 x0_2_1), (.int .u32 x0_2_2), (.int .i64 x0_3), (.int .i64 x0_4)] 65)) (Addr.add a7 7) (fun v8 => (asInt .i64 v8 (fun n9 => (ifB (decide (n6 < n9)) (asPtr c2 (fun a10 => (ldH (Array.push h (.cells #[(.int .i64 x0_0), (.int .i64 x0_1_0), (.int .u32 x0_1_1), (.int .u32 x0_1_2), (.int .i64 x0_2_0), (.int .u32 x0_2_1), (.int .u32 x0_2_2), (.int .i64 x0_3), (.int .i64 x0_4)] 65)) a10 (fun v11 => (asSlice v11 (fun o12 k13 k14 => (ldH (Array.push h (.cells #[(.int .i64 x0_0), (.int .i64 x0_1_0), (.int .u32 x0_1_1), (.int .u32 x0_1_2), (.int .i64 x0_2_0), (.int .u32 x0_2_1), (.int .u32 x0_2_2), (.int .i64 x0_3), (.int .i64 x0_4)] 65)) ⟨h.size, 8, none⟩ (fun v15 => (asInt .i64 v15 (fun n16 => (callV Try.prog (.func (.func 105) #[] #[]) #[(.slice o12 k13 k14), (.int .i64 n16)] (Array.push h (.cells #[(.int .i64 x0_0), (.int .i64 x0_1_0), (.int .u32 x0_1_1), (.int .u32 x0_1_2), (.int .i64 x0_2_0), (.int .u32 x0_2_1), (.int .u32 x0_2_2), (.int .i64 x0_3), (.int .i64 x0_4)] 65)) (fun v17 h18 => (asBool v17 (fun b19 => (K (.bool b19) h18))))))))))))))) (K (.bool false) (Array.push h (.cells #[(.int .i64 x0_0), (.int .i64 x0_1_0), (.int .u32 x0_1_1), (.int .u32 x0_1_2), (.int .i64 x0_2_0), (.int .u32 x0_2_1), (.int .u32 x0_2_2), (.int .i64 x0_3), (.int .i64 x0_4)] 65)))))))))))))) (K (.bool false) (Array.push h (.cells #[(.int .i64 x0_0), (.int .i64 x0_1_0), (.int .u32 x0_1_1), (.int .u32 x0_1_2), (.int .i64 x0_2_0), (.int .u32 x0_2_1), (.int .u32 x0_2_2), (.int .i64 x0_3), (.int .i64 x0_4)] 65))))))))))))))
theorem vc108 (K : Value → Heap → Prop) (h : Heap) (x0_0 : Int) (x0_1_0 : Int) (x0_1_1 : Int) (x0_1_2 : Int) (x0_2_0 : Int) (x0_2_1 : Int) (x0_2_2 : Int) (x0_3 : Int) (x0_4 : Int) (c0 : Value) (c1 : Value) (c2 : Value) : vc Try.prog (bodyOf Try.f108) (retQ Try.prog Try.f108.results.toList (hasRange (bodyOf Try.f108)) h.size K) (envL [(.agg #[(.int .i64 x0_0), (.int .i64 x0_1_0), (.int .u32 x0_1_1), (.int .u32 x0_1_2), (.int .i64 x0_2_0), (.int .u32 x0_2_1), (.int .u32 x0_2_2), (.int .i64 x0_3), (.int .i64 x0_4)]), c0, c1, c2]) h = F108 K h x0_0 x0_1_0 x0_1_1 x0_1_2 x0_2_0 x0_2_1 x0_2_2 x0_3 x0_4 c0 c1 c2 := by kernel_rfl
theorem ok108 : fnOk Try.prog Try.f108 4 = true := by kernel_rfl
theorem call108 {K : Value → Heap → Prop} {h : Heap} {x0_0 : Int} {x0_1_0 : Int} {x0_1_1 : Int} {x0_1_2 : Int} {x0_2_0 : Int} {x0_2_1 : Int} {x0_2_2 : Int} {x0_3 : Int} {x0_4 : Int} {c0 : Value} {c1 : Value} {c2 : Value} (H : F108 K h x0_0 x0_1_0 x0_1_1 x0_1_2 x0_2_0 x0_2_1 x0_2_2 x0_3 x0_4 c0 c1 c2) : CallH Try.prog 108 #[(.agg #[(.int .i64 x0_0), (.int .i64 x0_1_0), (.int .u32 x0_1_1), (.int .u32 x0_1_2), (.int .i64 x0_2_0), (.int .u32 x0_2_1), (.int .u32 x0_2_2), (.int .i64 x0_3), (.int .i64 x0_4)]), c0, c1, c2] h K :=
  callH_mk Try.func108 ok108 (Eq.mp (vc108 K h x0_0 x0_1_0 x0_1_1 x0_1_2 x0_2_0 x0_2_1 x0_2_2 x0_3 x0_4 c0 c1 c2).symm H)
/-- jostle/weak.Must -/
def F73 (K : Value → Heap → Prop) (h : Heap) (x0a : Option Addr) (x0l x0c : Nat) (x1 : Int) (x2 : Int) (x3 : Int) : Prop :=
  (exI (fun I0 => ((ifB (decide (x2 < 0)) (I0 [(.bool true), (.bool true), (.bool true)] h) (ifB (decide (x2 ≥ ((x0l : Nat) : Int))) (I0 [(.bool (decide (x2 ≥ ((x0l : Nat) : Int)))), (.bool true), (.bool true)] h) (ifB (decide (x3 < 0)) (I0 [(.bool (decide (x2 ≥ ((x0l : Nat) : Int)))), (.bool (decide (x3 < 0))), (.bool true)] h) (I0 [(.bool (decide (x2 ≥ ((x0l : Nat) : Int)))), (.bool (decide (x3 < 0))), (.bool (decide (x3 ≥ ((x0l : Nat) : Int))))] h)))) ∧ (∀ v1 : Value, (∀ v2 : Value, (∀ v3 : Value, (∀ g4 : Env, (∀ h5 : Heap, ((I0 [v1, v2, v3] h5) → (asBool v3 (fun b6 => (ifB b6 (K (.bool false) h5) (((0 : Int) ≤ x2) ∧ (((x2 : Int) < ((x0l : Nat) : Int)) ∧ (asPtr (.pointer x0a) (fun a7 => (ldH h5 (Addr.add a7 (x2.toNat * 9)) (fun v8 => (ldH h5 (Addr.add (Addr.add a7 (x2.toNat * 9)) 1) (fun v9 => (ldH h5 (Addr.add (Addr.add a7 (x2.toNat * 9)) 2) (fun v10 => (ldH h5 (Addr.add (Addr.add a7 (x2.toNat * 9)) 3) (fun v11 => (ldH h5 (Addr.add (Addr.add a7 (x2.toNat * 9)) 4) (fun v12 => (ldH h5 (Addr.add (Addr.add a7 (x2.toNat * 9)) 5) (fun v13 => (ldH h5 (Addr.add (Addr.add a7 (x2.toNat * 9)) 6) (fun v14 => (ldH h5 (Addr.add (Addr.add a7 (x2.toNat * 9)) 7) (fun v15 => (ldH h5 (Addr.add (Addr.add a7 (x2.toNat * 9)) 8) (fun v16 => (((0 : Int) ≤ x3) ∧ (((x3 : Int) < ((x0l : Nat) : Int)) ∧ (asPtr (.pointer x0a) (fun a17 => (ldH h5 (Addr.add a17 (x3.toNat * 9)) (fun v18 => (ldH h5 (Addr.add (Addr.add a17 (x3.toNat * 9)) 1) (fun v19 => (ldH h5 (Addr.add (Addr.add a17 (x3.toNat * 9)) 2) (fun v20 => (ldH h5 (Addr.add (Addr.add a17 (x3.toNat * 9)) 3) (fun v21 => (ldH h5 (Addr.add (Addr.add a17 (x3.toNat * 9)) 4) (fun v22 => (ldH h5 (Addr.add (Addr.add a17 (x3.toNat * 9)) 5) (fun v23 => (ldH h5 (Addr.add (Addr.add a17 (x3.toNat * 9)) 6) (fun v24 => (ldH h5 (Addr.add (Addr.add a17 (x3.toNat * 9)) 7) (fun v25 => (ldH h5 (Addr.add (Addr.add a17 (x3.toNat * 9)) 8) (fun v26 => ((((cellAt (Array.push h5 (.cells #[(.int .i64 0), (.int .i64 0), (.int .u32 0), (.int .u32 0), (.int .i64 0), (.int .u32 0), (.int .u32 0), (.int .i64 0), (.int .i64 0)] 65)) (Addr.add a17 (x3.toNat * 9))) = (some v18)) ∧ (((cellAt (Array.push h5 (.cells #[(.int .i64 0), (.int .i64 0), (.int .u32 0), (.int .u32 0), (.int .i64 0), (.int .u32 0), (.int .u32 0), (.int .i64 0), (.int .i64 0)] 65)) (Addr.add (Addr.add a17 (x3.toNat * 9)) 1)) = (some v19)) ∧ (((cellAt (Array.push h5 (.cells #[(.int .i64 0), (.int .i64 0), (.int .u32 0), (.int .u32 0), (.int .i64 0), (.int .u32 0), (.int .u32 0), (.int .i64 0), (.int .i64 0)] 65)) (Addr.add (Addr.add a17 (x3.toNat * 9)) 2)) = (some v20)) ∧ (((cellAt (Array.push h5 (.cells #[(.int .i64 0), (.int .i64 0), (.int .u32 0), (.int .u32 0), (.int .i64 0), (.int .u32 0), (.int .u32 0), (.int .i64 0), (.int .i64 0)] 65)) (Addr.add (Addr.add a17 (x3.toNat * 9)) 3)) = (some v21)) ∧ (((cellAt (Array.push h5 (.cells #[(.int .i64 0), (.int .i64 0), (.int .u32 0), (.int .u32 0), (.int .i64 0), (.int .u32 0), (.int .u32 0), (.int .i64 0), (.int .i64 0)] 65)) (Addr.add (Addr.add a17 (x3.toNat * 9)) 4)) = (some v22)) ∧ (((cellAt (Array.push h5 (.cells #[(.int .i64 0), (.int .i64 0), (.int .u32 0), (.int .u32 0), (.int .i64 0), (.int .u32 0), (.int .u32 0), (.int .i64 0), (.int .i64 0)] 65)) (Addr.add (Addr.add a17 (x3.toNat * 9)) 5)) = (some v23)) ∧ (((cellAt (Array.push h5 (.cells #[(.int .i64 0), (.int .i64 0), (.int .u32 0), (.int .u32 0), (.int .i64 0), (.int .u32 0), (.int .u32 0), (.int .i64 0), (.int .i64 0)] 65)) (Addr.add (Addr.add a17 (x3.toNat * 9)) 6)) = (some v24)) ∧ (((cellAt (Array.push h5 (.cells #[(.int .i64 0), (.int .i64 0), (.int .u32 0), (.int .u32 0), (.int .i64 0), (.int .u32 0), (.int .u32 0), (.int .i64 0), (.int .i64 0)] 65)) (Addr.add (Addr.add a17 (x3.toNat * 9)) 7)) = (some v25)) ∧ (((cellAt (Array.push h5 (.cells #[(.int .i64 0), (.int .i64 0), (.int .u32 0), (.int .u32 0), (.int .i64 0), (.int .u32 0), (.int .u32 0), (.int .i64 0), (.int .i64 0)] 65)) (Addr.add (Addr.add a17 (x3.toNat * 9)) 8)) = (some v26)) ∧ (((cellAt (Array.push h5 (.cells #[(.int .i64 0), (.int .i64 0), (.int .u32 0), (.int .u32 0), (.int .i64 0), (.int .u32 0), (.int .u32 0), (.int .i64 0), (.int .i64 0)] 65)) (Addr.add a7 (x2.toNat * 9))) = (some v8)) ∧ (((cellAt (Array.push h5 (.cells #[(.int .i64 0), (.int .i64 0), (.int .u32 0), (.int .u32 0), (.int .i64 0), (.int .u32 0), (.int .u32 0), (.int .i64 0), (.int .i64 0)] 65)) (Addr.add (Addr.add a7 (x2.toNat * 9)) 1)) = (some v9)) ∧ (((cellAt (Array.push h5 (.cells #[(.int .i64 0), (.int .i64 0), (.int .u32 0), (.int .u32 0), (.int .i64 0), (.int .u32 0), (.int .u32 0), (.int .i64 0), (.int .i64 0)] 65)) (Addr.add (Addr.add a7 (x2.toNat * 9)) 2)) = (some v10)) ∧ (((cellAt (Array.push h5 (.cells #[(.int .i64 0), (.int .i64 0), (.int .u32 0), (.int .u32 0), (.int .i64 0), (.int .u32 0), (.int .u32 0), (.int .i64 0), (.int .i64 0)] 65)) (Addr.add (Addr.add a7 (x2.toNat * 9)) 3)) = (some v11)) ∧ (((cellAt (Array.push h5 (.cells #[(.int .i64 0), (.int .i64 0), (.int .u32 0), (.int .u32 0), (.int .i64 0), (.int .u32 0), (.int .u32 0), (.int .i64 0), (.int .i64 0)] 65)) (Addr.add (Addr.add a7 (x2.toNat * 9)) 4)) = (some v12)) ∧ (((cellAt (Array.push h5 (.cells #[(.int .i64 0), (.int .i64 0), (.int .u32 0), (.int .u32 0), (.int .i64 0), (.int .u32 0), (.int .u32 0), (.int .i64 0), (.int .i64 0)] 65)) (Addr.add (Addr.add a7 (x2.toNat * 9)) 5)) = (some v13)) ∧ (((cellAt (Array.push h5 (.cells #[(.int .i64 0), (.int .i64 0), (.int .u32 0), (.int .u32 0), (.int .i64 0), (.int .u32 0), (.int .u32 0), (.int .i64 0), (.int .i64 0)] 65)) (Addr.add (Addr.add a7 (x2.toNat * 9)) 6)) = (some v14)) ∧ (((cellAt (Array.push h5 (.cells #[(.int .i64 0), (.int .i64 0), (.int .u32 0), (.int .u32 0), (.int .i64 0), (.int .u32 0), (.int .u32 0), (.int .i64 0), (.int .i64 0)] 65)) (Addr.add (Addr.add a7 (x2.toNat * 9)) 7)) = (some v15)) ∧ (((cellAt (Array.push h5 (.cells #[(.int .i64 0), (.int .i64 0), (.int .u32 0), (.int .u32 0), (.int .i64 0), (.int .u32 0), (.int .u32 0), (.int .i64 0), (.int .i64 0)] 65)) (Addr.add (Addr.add a7 (x2.toNat * 9)) 8)) = (some v16)) ∧ (((cellAt (Array.push (Array.push h5 (.cells #[(.int .i64 0), (.int .i64 0), (.int .u32 0), (.int .u32 0), (.int .i64 0), (.int .u32 0), (.int .u32 0), (.int .i64 0), (.int .i64 0)] 65)) (.cells #[(.int .i64 0), (.int .i64 0), (.int .u32 0), (.int .u32 0), (.int .i64 0), (.int .u32 0), (.int .u32 0), (.int .i64 0), (.int .i64 0)] 65)) (Addr.add a17 (x3.toNat * 9))) = (some v18)) ∧ (((cellAt (Array.push (Array.push h5 (.cells #[(.int .i64 0), (.int .i64 0), (.int .u32 0), (.int .u32 0), (.int .i64 0), (.int .u32 0), (.int .u32 0), (.int .i64 0), (.int .i64 0)] 65)) (.cells #[(.int .i64 0), (.int .i64 0), (.int .u32 0), (.int .u32 0), (.int .i64 0), (.int .u32 0), (.int .u32 0), (.int .i64 0), (.int .i64 0)] 65)) (Addr.add (Addr.add a17 (x3.toNat * 9)) 1)) = (some v19)) ∧ (((cellAt (Array.push (Array.push h5 (.cells #[(.int .i64 0), (.int .i64 0), (.int .u32 0), (.int .u32 0), (.int .i64 0), (.int .u32 0), (.int .u32 0), (.int .i64 0), (.int .i64 0)] 65)) (.cells #[(.int .i64 0), (.int .i64 0), (.int .u32 0), (.int .u32 0), (.int .i64 0), (.int .u32 0), (.int .u32 0), (.int .i64 0), (.int .i64 0)] 65)) (Addr.add (Addr.add a17 (x3.toNat * 9)) 2)) = (some v20)) ∧ (((cellAt (Array.push (Array.push h5 (.cells #[(.int .i64 0), (.int .i64 0), (.int .u32 0), (.int .u32 0), (.int .i64 0), (.int .u32 0), (.int .u32 0), (.int .i64 0), (.int .i64 0)] 65)) (.cells #[(.int .i64 0), (.int .i64 0), (.int .u32 0), (.int .u32 0), (.int .i64 0), (.int .u32 0), (.int .u32 0), (.int .i64 0), (.int .i64 0)] 65)) (Addr.add (Addr.add a17 (x3.toNat * 9)) 3)) = (some v21)) ∧ (((cellAt (Array.push (Array.push h5 (.cells #[(.int .i64 0), (.int .i64 0), (.int .u32 0), (.int .u32 0), (.int .i64 0), (.int .u32 0), (.int .u32 0), (.int .i64 0), (.int .i64 0)] 65)) (.cells #[(.int .i64 0), (.int .i64 0), (.int .u32 0), (.int .u32 0), (.int .i64 0), (.int .u32 0), (.int .u32 0), (.int .i64 0), (.int .i64 0)] 65)) (Addr.add (Addr.add a17 (x3.toNat * 9)) 4)) = (some v22)) ∧ (((cellAt (Array.push (Array.push h5 (.cells #[(.int .i64 0), (.int .i64 0), (.int .u32 0), (.int .u32 0), (.int .i64 0), (.int .u32 0), (.int .u32 0), (.int .i64 0), (.int .i64 0)] 65)) (.cells #[(.int .i64 0), (.int .i64 0), (.int .u32 0), (.int .u32 0), (.int .i64 0), (.int .u32 0), (.int .u32 0), (.int .i64 0), (.int .i64 0)] 65)) (Addr.add (Addr.add a17 (x3.toNat * 9)) 5)) = (some v23)) ∧ (((cellAt (Array.push (Array.push h5 (.cells #[(.int .i64 0), (.int .i64 0), (.int .u32 0), (.int .u32 0), (.int .i64 0), (.int .u32 0), (.int .u32 0), (.int .i64 0), (.int .i64 0)] 65)) (.cells #[(.int .i64 0), (.int .i64 0), (.int .u32 0), (.int .u32 0), (.int .i64 0), (.int .u32 0), (.int .u32 0), (.int .i64 0), (.int .i64 0)] 65)) (Addr.add (Addr.add a17 (x3.toNat * 9)) 6)) = (some v24)) ∧ (((cellAt (Array.push (Array.push h5 (.cells #[(.int .i64 0), (.int .i64 0), (.int .u32 0), (.int .u32 0), (.int .i64 0), (.int .u32 0), (.int .u32 0), (.int .i64 0), (.int .i64 0)] 65)) (.cells #[(.int .i64 0), (.int .i64 0), (.int .u32 0), (.int .u32 0), (.int .i64 0), (.int .u32 0), (.int .u32 0), (.int .i64 0), (.int .i64 0)] 65)) (Addr.add (Addr.add a17 (x3.toNat * 9)) 7)) = (some v25)) ∧ (((cellAt (Array.push (Array.push h5 (.cells #[(.int .i64 0), (.int .i64 0), (.int .u32 0), (.int .u32 0), (.int .i64 0), (.int .u32 0), (.int .u32 0), (.int .i64 0), (.int .i64 0)] 65)) (.cells #[(.int .i64 0), (.int .i64 0), (.int .u32 0), (.int .u32 0), (.int .i64 0), (.int .u32 0), (.int .u32 0), (.int .i64 0), (.int .i64 0)] 65)) (Addr.add (Addr.add a17 (x3.toNat * 9)) 8)) = (some v26)) ∧ (((cellAt (Array.push (Array.push h5 (.cells #[(.int .i64 0), (.int .i64 0), (.int .u32 0), (.int .u32 0), (.int .i64 0), (.int .u32 0), (.int .u32 0), (.int .i64 0), (.int .i64 0)] 65)) (.cells #[(.int .i64 0), (.int .i64 0), (.int .u32 0), (.int .u32 0), (.int .i64 0), (.int .u32 0), (.int .u32 0), (.int .i64 0), (.int .i64 0)] 65)) (Addr.add a7 (x2.toNat * 9))) = (some v8)) ∧ (((cellAt (Array.push (Array.push h5 (.cells #[(.int .i64 0), (.int .i64 0), (.int .u32 0), (.int .u32 0), (.int .i64 0), (.int .u32 0), (.int .u32 0), (.int .i64 0), (.int .i64 0)] 65)) (.cells #[(.int .i64 0), (.int .i64 0), (.int .u32 0), (.int .u32 0), (.int .i64 0), (.int .u32 0), (.int .u32 0), (.int .i64 0), (.int .i64 0)] 65)) (Addr.add (Addr.add a7 (x2.toNat * 9)) 1)) = (some v9)) ∧ (((cellAt (Array.push (Array.push h5 (.cells #[(.int .i64 0), (.int .i64 0), (.int .u32 0), (.int .u32 0), (.int .i64 0), (.int .u32 0), (.int .u32 0), (.int .i64 0), (.int .i64 0)] 65)) (.cells #[(.int .i64 0), (.int .i64 0), (.int .u32 0), (.int .u32 0), (.int .i64 0), (.int .u32 0), (.int .u32 0), (.int .i64 0), (.int .i64 0)] 65)) (Addr.add (Addr.add a7 (x2.toNat * 9)) 2)) = (some v10)) ∧ (((cellAt (Array.push (Array.push h5 (.cells #[(.int .i64 0), (.int .i64 0), (.int .u32 0), (.int .u32 0), (.int .i64 0), (.int .u32 0), (.int .u32 0), (.int .i64 0), (.int .i64 0)] 65)) (.cells #[(.int .i64 0), (.int .i64 0), (.int .u32 0), (.int .u32 0), (.int .i64 0), (.int .u32 0), (.int .u32 0), (.int .i64 0), (.int .i64 0)] 65)) (Addr.add (Addr.add a7 (x2.toNat * 9)) 3)) = (some v11)) ∧ (((cellAt (Array.push (Array.push h5 (.cells #[(.int .i64 0), (.int .i64 0), (.int .u32 0), (.int .u32 0), (.int .i64 0), (.int .u32 0), (.int .u32 0), (.int .i64 0), (.int .i64 0)] 65)) (.cells #[(.int .i64 0), (.int .i64 0), (.int .u32 0), (.int .u32 0), (.int .i64 0), (.int .u32 0), (.int .u32 0), (.int .i64 0), (.int .i64 0)] 65)) (Addr.add (Addr.add a7 (x2.toNat * 9)) 4)) = (some v12)) ∧ (((cellAt (Array.push (Array.push h5 (.cells #[(.int .i64 0), (.int .i64 0), (.int .u32 0), (.int .u32 0), (.int .i64 0), (.int .u32 0), (.int .u32 0), (.int .i64 0), (.int .i64 0)] 65)) (.cells #[(.int .i64 0), (.int .i64 0), (.int .u32 0), (.int .u32 0), (.int .i64 0), (.int .u32 0), (.int .u32 0), (.int .i64 0), (.int .i64 0)] 65)) (Addr.add (Addr.add a7 (x2.toNat * 9)) 5)) = (some v13)) ∧ (((cellAt (Array.push (Array.push h5 (.cells #[(.int .i64 0), (.int .i64 0), (.int .u32 0), (.int .u32 0), (.int .i64 0), (.int .u32 0), (.int .u32 0), (.int .i64 0), (.int .i64 0)] 65)) (.cells #[(.int .i64 0), (.int .i64 0), (.int .u32 0), (.int .u32 0), (.int .i64 0), (.int .u32 0), (.int .u32 0), (.int .i64 0), (.int .i64 0)] 65)) (Addr.add (Addr.add a7 (x2.toNat * 9)) 6)) = (some v14)) ∧ (((cellAt (Array.push (Array.push h5 (.cells #[(.int .i64 0), (.int .i64 0), (.int .u32 0), (.int .u32 0), (.int .i64 0), (.int .u32 0), (.int .u32 0), (.int .i64 0), (.int .i64 0)] 65)) (.cells #[(.int .i64 0), (.int .i64 0), (.int .u32 0), (.int .u32 0), (.int .i64 0), (.int .u32 0), (.int .u32 0), (.int .i64 0), (.int .i64 0)] 65)) (Addr.add (Addr.add a7 (x2.toNat * 9)) 7)) = (some v15)) ∧ (((cellAt (Array.push (Array.push h5 (.cells #[(.int .i64 0), (.int .i64 0), (.int .u32 0), (.int .u32 0), (.int .i64 0), (.int .u32 0), (.int .u32 0), (.int .i64 0), (.int .i64 0)] 65)) (.cells #[(.int .i64 0), (.int .i64 0), (.int .u32 0), (.int .u32 0), (.int .i64 0), (.int .u32 0), (.int .u32 0), (.int .i64 0), (.int .i64 0)] 65)) (Addr.add (Addr.add a7 (x2.toNat * 9)) 8)) = (some v16)) ∧ (stH (Array.push (Array.push h5 (.cells #[(.int .i64 0), (.int .i64 0), (.int .u32 0), (.int .u32 0), (.int .i64 0), (.int .u32 0), (.int .u32 0), (.int .i64 0), (.int .i64 0)] 65)) (.cells #[(.int .i64 0), (.int .i64 0), (.int .u32 0), (.int .u32 0), (.int .i64 0), (.int .u32 0), (.int .u32 0), (.int .i64 0), (.int .i64 0)] 65)) ⟨h5.size, 0, none⟩ v8 (fun h27 => (stH h27 ⟨h5.size, 1, none⟩ v9 (fun h28 => (stH h28 ⟨h5.size, 2, none⟩ v10 (fun h29 => (stH h29 ⟨h5.size, 3, none⟩ v11 (fun h30 => (stH h30 ⟨h5.size, 4, none⟩ v12 (fun h31 => (stH h31 ⟨h5.size, 5, none⟩ v13 (fun h32 => (stH h32 ⟨h5.size, 6, none⟩ v14 (fun h33 => (stH h33 ⟨h5.size, 7, none⟩ v15 (fun h34 => (stH h34 ⟨h5.size, 8, none⟩ v16 (fun h35 => (((cellAt h35 (Addr.add a17 (x3.toNat * 9))) = (some v18)) ∧ (((cellAt h35 (Addr.add (Addr.add a17 (x3.toNat * 9)) 1)) = (some v19)) ∧ (((cellAt h35 (Addr.add (Addr.add a17 (x3.toNat * 9)) 2)) = (some v20)) ∧ (((cellAt h35 (Addr.add (Addr.add a17 (x3.toNat * 9)) 3)) = (some v21)) ∧ (((cellAt h35 (Addr.add (Addr.add a17 (x3.toNat * 9)) 4)) = (some v22)) ∧ (((cellAt h35 (Addr.add (Addr.add a17 (x3.toNat * 9)) 5)) = (some v23)) ∧ (((cellAt h35 (Addr.add (Addr.add a17 (x3.toNat * 9)) 6)) = (some v24)) ∧ (((cellAt h35 (Addr.add (Addr.add a17 (x3.toNat * 9)) 7)) = (some v25)) ∧ (((cellAt h35 (Addr.add (Addr.add a17 (x3.toNat * 9)) 8)) = (some v26)) ∧ (stH h35 ⟨(Array.push h5 (.cells #[(.int .i64 0), (.int .i64 0), (.int .u32 0), (.int .u32 0), (.int .i64 0), (.int .u32 0), (.int .u32 0), (.int .i64 0), (.int .i64 0)] 65)).size, 0, none⟩ v18 (fun h36 => (stH h36 ⟨(Array.push h5 (.cells #[(.int .i64 0), (.int .i64 0), (.int .u32 0), (.int .u32 0), (.int .i64 0), (.int .u32 0), (.int .u32 0), (.int .i64 0), (.int .i64 0)] 65)).size, 1, none⟩ v19 (fun h37 => (stH h37 ⟨(Array.push h5 (.cells #[(.int .i64 0), (.int .i64 0), (.int .u32 0), (.int .u32 0), (.int .i64 0), (.int .u32 0), (.int .u32 0), (.int .i64 0), (.int .i64 0)] 65)).size, 2, none⟩ v20 (fun h38 => (stH h38 ⟨(Array.push h5 (.cells #[(.int .i64 0), (.int .i64 0), (.int .u32 0), (.int .u32 0), (.int .i64 0), (.int .u32 0), (.int .u32 0), (.int .i64 0), (.int .i64 0)] 65)).size, 3, none⟩ v21 (fun h39 => (stH h39 ⟨(Array.push h5 (.cells #[(.int .i64 0), (.int .i64 0), (.int .u32 0), (.int .u32 0), (.int .i64 0), (.int .u32 0), (.int .u32 0), (.int .i64 0), (.int .i64 0)] 65)).size, 4, none⟩ v22 (fun h40 => (stH h40 ⟨(Array.push h5 (.cells #[(.int .i64 0), (.int .i64 0), (.int .u32 0), (.int .u32 0), (.int .i64 0), (.int .u32 0), (.int .u32 0), (.int .i64 0), (.int .i64 0)] 65)).size, 5, none⟩ v23 (fun h41 => (stH h41 ⟨(Array.push h5 (.cells #[(.int .i64 0), (.int .i64 0), (.int .u32 0), (.int .u32 0), (.int .i64 0), (.int .u32 0), (.int .u32 0), (.int .i64 0), (.int .i64 0)] 65)).size, 6, none⟩ v24 (fun h42 => (stH h42 ⟨(Array.push h5 (.cells #[(.int .i64 0), (.int .i64 0), (.int .u32 0), (.int .u32 0), (.int .i64 0), (.int .u32 0), (.int .u32 0), (.int .i64 0), (.int .i64 0)] 65)).size, 7, none⟩ v25 (fun h43 => (stH h43 ⟨(Array.push h5 (.cells #[(.int .i64 0), (.int .i64 0), (.int .u32 0), (.int .u32 0), (.int .i64 0), (.int .u32 0), (.int .u32 0), (.int .i64 0), (.int .i64 0)] 65)).size, 8, none⟩ v26 (fun h44 => (ifB (x1 == 0) (ldH h44 ⟨h5.size, 0, none⟩ (fun v45 => (ldH h44 ⟨h5.size, 1, none⟩ (fun v46 => (ldH h44 ⟨h5.size, 2, none⟩ (fun v47 => (ldH h44 ⟨h5.size, 3, none⟩ (fun v48 => (ldH h44 ⟨h5.size, 4, none⟩ (fun v49 => (ldH h44 ⟨h5.size, 5, none⟩ (fun v50 => (ldH h44 ⟨h5.size, 6, none⟩ (fun v51 => (ldH h44 ⟨h5.size, 7, none⟩ (fun v52 => (ldH h44 ⟨h5.size, 8, none⟩ (fun v53 => (ldH h44 ⟨(Array.push h5 (.cells #[(.int .i64 0), (.int .i64 0), (.int .u32 0), (.int .u32 0), (.int .i64 0), (.int .u32 0), (.int .u32 0), (.int .i64 0), (.int .i64 0)] 65)).size, 0, none⟩ (fun v54 => (ldH h44 ⟨(Array.push h5 (.cells #[(.int .i64 0), (.int .i64 0), (.int .u32 0), (.int .u32 0), (.int .i64 0), (.int .u32 0), (.int .u32 0), (.int .i64 0), (.int .i64 0)] 65)).size, 1, none⟩ (fun v55 => (ldH h44 ⟨(Array.push h5 (.cells #[(.int .i64 0), (.int .i64 0), (.int .u32 0), (.int .u32 0), (.int .i64 0), (.int .u32 0), (.int .u32 0), (.int .i64 0), (.int .i64 0)] 65)).size, 2, none⟩ (fun v56 => (ldH h44 ⟨(Array.push h5 (.cells #[(.int .i64 0), (.int .i64 0), (.int .u32 0), (.int .u32 0), (.int .i64 0), (.int .u32 0), (.int .u32 0), (.int .i64 0), (.int .i64 0)] 65)).size, 3, none⟩ (fun v57 => (ldH h44 ⟨(Array.push h5 (.cells #[(.int .i64 0), (.int .i64 0), (.int .u32 0), (.int .u32 0), (.int .i64 0), (.int .u32 0), (.int .u32 0), (.int .i64 0), (.int .i64 0)] 65)).size, 4, none⟩ (fun v58 => (ldH h44 ⟨(Array.push h5 (.cells #[(.int .i64 0), (.int .i64 0), (.int .u32 0), (.int .u32 0), (.int .i64 0), (.int .u32 0), (.int .u32 0), (.int .i64 0), (.int .i64 0)] 65)).size, 5, none⟩ (fun v59 => (ldH h44 ⟨(Array.push h5 (.cells #[(.int .i64 0), (.int .i64 0), (.int .u32 0), (.int .u32 0), (.int .i64 0), (.int .u32 0), (.int .u32 0), (.int .i64 0), (.int .i64 0)] 65)).size, 6, none⟩ (fun v60 => (ldH h44 ⟨(Array.push h5 (.cells #[(.int .i64 0), (.int .i64 0), (.int .u32 0), (.int .u32 0), (.int .i64 0), (.int .u32 0), (.int .u32 0), (.int .i64 0), (.int .i64 0)] 65)).size, 7, none⟩ (fun v61 => (ldH h44 ⟨(Array.push h5 (.cells #[(.int .i64 0), (.int .i64 0), (.int .u32 0), (.int .u32 0), (.int .i64 0), (.int .u32 0), (.int .u32 0), (.int .i64 0), (.int .i64 0)] 65)).size, 8, none⟩ (fun v62 => (callV Try.prog (.func (.func 84) #[] #[]) #[(.agg #[v45, v46, v47, v48, v49, v50, v51, v52, v53]), (.agg #[v54, v55, v56, v57, v58, v59, v60, v61, v62])] h44 (fun v63 h64 => (asBool v63 (fun b65 => (K (.bool b65) h64))))))))))))))))))))))))))))))))))))))))) (ifB (x1 == 1) (ldH h44 ⟨h5.size, 0, none⟩ (fun v66 => (asInt .i64 v66 (fun n67 => (ldH h44 ⟨(Array.push h5 (.cells #[(.int .i64 0), (.int .i64 0), (.int .u32 0), (.int .u32 0), (.int .i64 0), (.int .u32 0), (.int .u32 0), (.int .i64 0), (.int .i64 0)] 65)).size, 0, none⟩ (fun v68 => (asInt .i64 v68 (fun n69 => (ifB (n67 == n69) (ldH h44 ⟨h5.size, 7, none⟩ (fun v70 => (asInt .i64 v70 (fun n71 => (ldH h44 ⟨(Array.push h5 (.cells #[(.int .i64 0), (.int .i64 0), (.int .u32 0), (.int .u32 0), (.int .i64 0), (.int .u32 0), (.int .u32 0), (.int .i64 0), (.int .i64 0)] 65)).size, 7, none⟩ (fun v72 => (asInt .i64 v72 (fun n73 => (K (.bool (decide (n71 < n73))) h44))))))))) (K (.bool false) h44)))))))))) (ifB (x1 == 2) (ldH h44 ⟨h5.size, 0, none⟩ (fun v74 => (ldH h44 ⟨h5.size, 1, none⟩ (fun v75 => (ldH h44 ⟨h5.size, 2, none⟩ (fun v76 => (ldH h44 ⟨h5.size, 3, none⟩ (fun v77 => (ldH h44 ⟨h5.size, 4, none⟩ (fun v78 => (ldH h44 ⟨h5.size, 5, none⟩ (fun v79 => (ldH h44 ⟨h5.size, 6, none⟩ (fun v80 => (ldH h44 ⟨h5.size, 7, none⟩ (fun v81 => (ldH h44 ⟨h5.size, 8, none⟩ (fun v82 => (ldH h44 ⟨(Array.push h5 (.cells #[(.int .i64 0), (.int .i64 0), (.int .u32 0), (.int .u32 0), (.int .i64 0), (.int .u32 0), (.int .u32 0), (.int .i64 0), (.int .i64 0)] 65)).size, 0, none⟩ (fun v83 => (ldH h44 ⟨(Array.push h5 (.cells #[(.int .i64 0), (.int .i64 0), (.int .u32 0), (.int .u32 0), (.int .i64 0), (.int .u32 0), (.int .u32 0), (.int .i64 0), (.int .i64 0)] 65)).size, 1, none⟩ (fun v84 => (ldH h44 ⟨(Array.push h5 (.cells #[(.int .i64 0), (.int .i64 0), (.int .u32 0), (.int .u32 0), (.int .i64 0), (.int .u32 0), (.int .u32 0), (.int .i64 0), (.int .i64 0)] 65)).size, 2, none⟩ (fun v85 => (ldH h44 ⟨(Array.push h5 (.cells #[(.int .i64 0), (.int .i64 0), (.int .u32 0), (.int .u32 0), (.int .i64 0), (.int .u32 0), (.int .u32 0), (.int .i64 0), (.int .i64 0)] 65)).size, 3, none⟩ (fun v86 => (ldH h44 ⟨(Array.push h5 (.cells #[(.int .i64 0), (.int .i64 0), (.int .u32 0), (.int .u32 0), (.int .i64 0), (.int .u32 0), (.int .u32 0), (.int .i64 0), (.int .i64 0)] 65)).size, 4, none⟩ (fun v87 => (ldH h44 ⟨(Array.push h5 (.cells #[(.int .i64 0), (.int .i64 0), (.int .u32 0), (.int .u32 0), (.int .i64 0), (.int .u32 0), (.int .u32 0), (.int .i64 0), (.int .i64 0)] 65)).size, 5, none⟩ (fun v88 => (ldH h44 ⟨(Array.push h5 (.cells #[(.int .i64 0), (.int .i64 0), (.int .u32 0), (.int .u32 0), (.int .i64 0), (.int .u32 0), (.int .u32 0), (.int .i64 0), (.int .i64 0)] 65)).size, 6, none⟩ (fun v89 => (ldH h44 ⟨(Array.push h5 (.cells #[(.int .i64 0), (.int .i64 0), (.int .u32 0), (.int .u32 0), (.int .i64 0), (.int .u32 0), (.int .u32 0), (.int .i64 0), (.int .i64 0)] 65)).size, 7, none⟩ (fun v90 => (ldH h44 ⟨(Array.push h5 (.cells #[(.int .i64 0), (.int .i64 0), (.int .u32 0), (.int .u32 0), (.int .i64 0), (.int .u32 0), (.int .u32 0), (.int .i64 0), (.int .i64 0)] 65)).size, 8, none⟩ (fun v91 => (callV Try.prog (.func (.func 88) #[] #[]) #[(.slice x0a x0l x0c), (.agg #[v74, v75, v76, v77, v78, v79, v80, v81, v82]), (.agg #[v83, v84, v85, v86, v87, v88, v89, v90, v91])] h44 (fun v92 h93 => (asBool v92 (fun b94 => (K (.bool b94) h93))))))))))))))))))))))))))))))))))))))))) (K (.bool false) h44))))))))))))))))))))))))))))))))))))))))))))))))))))))))))))))))))))))))))))))))))))) ∧ (((cellAt (Array.push h5 (.cells #[(.int .i64 0), (.int .i64 0), (.int .u32 0), (.int .u32 0), (.int .i64 0), (.int .u32 0), (.int .u32 0), (.int .i64 0), (.int .i64 0)] 65)) (Addr.add a17 (x3.toNat * 9))) = (some v18)) ∧ (((cellAt (Array.push h5 (.cells #[(.int .i64 0), (.int .i64 0), (.int .u32 0), (.int .u32 0), (.int .i64 0), (.int .u32 0), (.int .u32 0), (.int .i64 0), (.int .i64 0)] 65)) (Addr.add (Addr.add a17 (x3.toNat * 9)) 1)) = (some v19)) ∧ (((cellAt (Array.push h5 (.cells #[(.int .i64 0), (.int .i64 0), (.int .u32 0), (.int .u32 0), (.int .i64 0), (.int .u32 0), (.int .u32 0), (.int .i64 0), (.int .i64 0)] 65)) (Addr.add (Addr.add a17 (x3.toNat * 9)) 2)) = (some v20)) ∧ (((cellAt (Array.push h5 (.cells #[(.int .i64 0), (.int .i64 0), (.int .u32 0), (.int .u32 0), (.int .i64 0), (.int .u32 0), (.int .u32 0), (.int .i64 0), (.int .i64 0)] 65)) (Addr.add (Addr.add a17 (x3.toNat * 9)) 3)) = (some v21)) ∧ (((cellAt (Array.push h5 (.cells #[(.int .i64 0), (.int .i64 0), (.int .u32 0), (.int .u32 0), (.int .i64 0), (.int .u32 0), (.int .u32 0), (.int .i64 0), (.int .i64 0)] 65)) (Addr.add (Addr.add a17 (x3.toNat * 9)) 4)) = (some v22)) ∧ (((cellAt (Array.push h5 (.cells #[(.int .i64 0), (.int .i64 0), (.int .u32 0), (.int .u32 0), (.int .i64 0), (.int .u32 0), (.int .u32 0), (.int .i64 0), (.int .i64 0)] 65)) (Addr.add (Addr.add a17 (x3.toNat * 9)) 5)) = (some v23)) ∧ (((cellAt (Array.push h5 (.cells #[(.int .i64 0), (.int .i64 0), (.int .u32 0), (.int .u32 0), (.int .i64 0), (.int .u32 0), (.int .u32 0), (.int .i64 0), (.int .i64 0)] 65)) (Addr.add (Addr.add a17 (x3.toNat * 9)) 6)) = (some v24)) ∧ (((cellAt (Array.push h5 (.cells #[(.int .i64 0), (.int .i64 0), (.int .u32 0), (.int .u32 0), (.int .i64 0), (.int .u32 0), (.int .u32 0), (.int .i64 0), (.int .i64 0)] 65)) (Addr.add (Addr.add a17 (x3.toNat * 9)) 7)) = (some v25)) ∧ (((cellAt (Array.push h5 (.cells #[(.int .i64 0), (.int .i64 0), (.int .u32 0), (.int .u32 0), (.int .i64 0), (.int .u32 0), (.int .u32 0), (.int .i64 0), (.int .i64 0)] 65)) (Addr.add (Addr.add a17 (x3.toNat * 9)) 8)) = (some v26)) ∧ (((cellAt (Array.push h5 (.cells #[(.int .i64 0), (.int .i64 0), (.int .u32 0), (.int .u32 0), (.int .i64 0), (.int .u32 0), (.int .u32 0), (.int .i64 0), (.int .i64 0)] 65)) (Addr.add a7 (x2.toNat * 9))) = (some v8)) ∧ (((cellAt (Array.push h5 (.cells #[(.int .i64 0), (.int .i64 0), (.int .u32 0), (.int .u32 0), (.int .i64 0), (.int .u32 0), (.int .u32 0), (.int .i64 0), (.int .i64 0)] 65)) (Addr.add (Addr.add a7 (x2.toNat * 9)) 1)) = (some v9)) ∧ (((cellAt (Array.push h5 (.cells #[(.int .i64 0), (.int .i64 0), (.int .u32 0), (.int .u32 0), (.int .i64 0), (.int .u32 0), (.int .u32 0), (.int .i64 0), (.int .i64 0)] 65)) (Addr.add (Addr.add a7 (x2.toNat * 9)) 2)) = (some v10)) ∧ (((cellAt (Array.push h5 (.cells #[(.int .i64 0), (.int .i64 0), (.int .u32 0), (.int .u32 0), (.int .i64 0), (.int .u32 0), (.int .u32 0), (.int .i64 0), (.int .i64 0)] 65)) (Addr.add (Addr.add a7 (x2.toNat * 9)) 3)) = (some v11)) ∧ (((cellAt (Array.push h5 (.cells #[(.int .i64 0), (.int .i64 0), (.int .u32 0), (.int .u32 0), (.int .i64 0), (.int .u32 0), (.int .u32 0), (.int .i64 0), (.int .i64 0)] 65)) (Addr.add (Addr.add a7 (x2.toNat * 9)) 4)) = (some v12)) ∧ (((cellAt (Array.push h5 (.cells #[(.int .i64 0), (.int .i64 0), (.int .u32 0), (.int .u32 0), (.int .i64 0), (.int .u32 0), (.int .u32 0), (.int .i64 0), (.int .i64 0)] 65)) (Addr.add (Addr.add a7 (x2.toNat * 9)) 5)) = (some v13)) ∧ (((cellAt (Array.push h5 (.cells #[(.int .i64 0), (.int .i64 0), (.int .u32 0), (.int .u32 0), (.int .i64 0), (.int .u32 0), (.int .u32 0), (.int .i64 0), (.int .i64 0)] 65)) (Addr.add (Addr.add a7 (x2.toNat * 9)) 6)) = (some v14)) ∧ (((cellAt (Array.push h5 (.cells #[(.int .i64 0), (.int .i64 0), (.int .u32 0), (.int .u32 0), (.int .i64 0), (.int .u32 0), (.int .u32 0), (.int .i64 0), (.int .i64 0)] 65)) (Addr.add (Addr.add a7 (x2.toNat * 9)) 7)) = (some v15)) ∧ (((cellAt (Array.push h5 (.cells #[(.int .i64 0), (.int .i64 0), (.int .u32 0), (.int .u32 0), (.int .i64 0), (.int .u32 0), (.int .u32 0), (.int .i64 0), (.int .i64 0)] 65)) (Addr.add (Addr.add a7 (x2.toNat * 9)) 8)) = (some v16)) ∧ (((cellAt (Array.push (Array.push h5 (.cells #[(.int .i64 0), (.int .i64 0), (.int .u32 0), (.int .u32 0), (.int .i64 0), (.int .u32 0), (.int .u32 0), (.int .i64 0), (.int .i64 0)] 65)) (.cells #[(.int .i64 0), (.int .i64 0), (.int .u32 0), (.int .u32 0), (.int .i64 0), (.int .u32 0), (.int .u32 0), (.int .i64 0), (.int .i64 0)] 65)) (Addr.add a17 (x3.toNat * 9))) = (some v18)) ∧ (((cellAt (Array.push (Array.push h5 (.cells #[(.int .i64 0), (.int .i64 0), (.int .u32 0), (.int .u32 0), (.int .i64 0), (.int .u32 0), (.int .u32 0), (.int .i64 0), (.int .i64 0)] 65)) (.cells #[(.int .i64 0), (.int .i64 0), (.int .u32 0), (.int .u32 0), (.int .i64 0), (.int .u32 0), (.int .u32 0), (.int .i64 0), (.int .i64 0)] 65)) (Addr.add (Addr.add a17 (x3.toNat * 9)) 1)) = (some v19)) ∧ (((cellAt (Array.push (Array.push h5 (.cells #[(.int .i64 0), (.int .i64 0), (.int .u32 0), (.int .u32 0), (.int .i64 0), (.int .u32 0), (.int .u32 0), (.int .i64 0), (.int .i64 0)] 65)) (.cells #[(.int .i64 0), (.int .i64 0), (.int .u32 0), (.int .u32 0), (.int .i64 0), (.int .u32 0), (.int .u32 0), (.int .i64 0), (.int .i64 0)] 65)) (Addr.add (Addr.add a17 (x3.toNat * 9)) 2)) = (some v20)) ∧ (((cellAt (Array.push (Array.push h5 (.cells #[(.int .i64 0), (.int .i64 0), (.int .u32 0), (.int .u32 0), (.int .i64 0), (.int .u32 0), (.int .u32 0), (.int .i64 0), (.int .i64 0)] 65)) (.cells #[(.int .i64 0), (.int .i64 0), (.int .u32 0), (.int .u32 0), (.int .i64 0), (.int .u32 0), (.int .u32 0), (.int .i64 0), (.int .i64 0)] 65)) (Addr.add (Addr.add a17 (x3.toNat * 9)) 3)) = (some v21)) ∧ (((cellAt (Array.push (Array.push h5 (.cells #[(.int .i64 0), (.int .i64 0), (.int .u32 0), (.int .u32 0), (.int .i64 0), (.int .u32 0), (.int .u32 0), (.int .i64 0), (.int .i64 0)] 65)) (.cells #[(.int .i64 0), (.int .i64 0), (.int .u32 0), (.int .u32 0), (.int .i64 0), (.int .u32 0), (.int .u32 0), (.int .i64 0), (.int .i64 0)] 65)) (Addr.add (Addr.add a17 (x3.toNat * 9)) 4)) = (some v22)) ∧ (((cellAt (Array.push (Array.push h5 (.cells #[(.int .i64 0), (.int .i64 0), (.int .u32 0), (.int .u32 0), (.int .i64 0), (.int .u32 0), (.int .u32 0), (.int .i64 0), (.int .i64 0)] 65)) (.cells #[(.int .i64 0), (.int .i64 0), (.int .u32 0), (.int .u32 0), (.int .i64 0), (.int .u32 0), (.int .u32 0), (.int .i64 0), (.int .i64 0)] 65)) (Addr.add (Addr.add a17 (x3.toNat * 9)) 5)) = (some v23)) ∧ (((cellAt (Array.push (Array.push h5 (.cells #[(.int .i64 0), (.int .i64 0), (.int .u32 0), (.int .u32 0), (.int .i64 0), (.int .u32 0), (.int .u32 0), (.int .i64 0), (.int .i64 0)] 65)) (.cells #[(.int .i64 0), (.int .i64 0), (.int .u32 0), (.int .u32 0), (.int .i64 0), (.int .u32 0), (.int .u32 0), (.int .i64 0), (.int .i64 0)] 65)) (Addr.add (Addr.add a17 (x3.toNat * 9)) 6)) = (some v24)) ∧ (((cellAt (Array.push (Array.push h5 (.cells #[(.int .i64 0), (.int .i64 0), (.int .u32 0), (.int .u32 0), (.int .i64 0), (.int .u32 0), (.int .u32 0), (.int .i64 0), (.int .i64 0)] 65)) (.cells #[(.int .i64 0), (.int .i64 0), (.int .u32 0), (.int .u32 0), (.int .i64 0), (.int .u32 0), (.int .u32 0), (.int .i64 0), (.int .i64 0)] 65)) (Addr.add (Addr.add a17 (x3.toNat * 9)) 7)) = (some v25)) ∧ (((cellAt (Array.push (Array.push h5 (.cells #[(.int .i64 0), (.int .i64 0), (.int .u32 0), (.int .u32 0), (.int .i64 0), (.int .u32 0), (.int .u32 0), (.int .i64 0), (.int .i64 0)] 65)) (.cells #[(.int .i64 0), (.int .i64 0), (.int .u32 0), (.int .u32 0), (.int .i64 0), (.int .u32 0), (.int .u32 0), (.int .i64 0), (.int .i64 0)] 65)) (Addr.add (Addr.add a17 (x3.toNat * 9)) 8)) = (some v26)) ∧ (((cellAt (Array.push (Array.push h5 (.cells #[(.int .i64 0), (.int .i64 0), (.int .u32 0), (.int .u32 0), (.int .i64 0), (.int .u32 0), (.int .u32 0), (.int .i64 0), (.int .i64 0)] 65)) (.cells #[(.int .i64 0), (.int .i64 0), (.int .u32 0), (.int .u32 0), (.int .i64 0), (.int .u32 0), (.int .u32 0), (.int .i64 0), (.int .i64 0)] 65)) (Addr.add a7 (x2.toNat * 9))) = (some v8)) ∧ (((cellAt (Array.push (Array.push h5 (.cells #[(.int .i64 0), (.int .i64 0), (.int .u32 0), (.int .u32 0), (.int .i64 0), (.int .u32 0), (.int .u32 0), (.int .i64 0), (.int .i64 0)] 65)) (.cells #[(.int .i64 0), (.int .i64 0), (.int .u32 0), (.int .u32 0), (.int .i64 0), (.int .u32 0), (.int .u32 0), (.int .i64 0), (.int .i64 0)] 65)) (Addr.add (Addr.add a7 (x2.toNat * 9)) 1)) = (some v9)) ∧ (((cellAt (Array.push (Array.push h5 (.cells #[(.int .i64 0), (.int .i64 0), (.int .u32 0), (.int .u32 0), (.int .i64 0), (.int .u32 0), (.int .u32 0), (.int .i64 0), (.int .i64 0)] 65)) (.cells #[(.int .i64 0), (.int .i64 0), (.int .u32 0), (.int .u32 0), (.int .i64 0), (.int .u32 0), (.int .u32 0), (.int .i64 0), (.int .i64 0)] 65)) (Addr.add (Addr.add a7 (x2.toNat * 9)) 2)) = (some v10)) ∧ (((cellAt (Array.push (Array.push h5 (.cells #[(.int .i64 0), (.int .i64 0), (.int .u32 0), (.int .u32 0), (.int .i64 0), (.int .u32 0), (.int .u32 0), (.int .i64 0), (.int .i64 0)] 65)) (.cells #[(.int .i64 0), (.int .i64 0), (.int .u32 0), (.int .u32 0), (.int .i64 0), (.int .u32 0), (.int .u32 0), (.int .i64 0), (.int .i64 0)] 65)) (Addr.add (Addr.add a7 (x2.toNat * 9)) 3)) = (some v11)) ∧ (((cellAt (Array.push (Array.push h5 (.cells #[(.int .i64 0), (.int .i64 0), (.int .u32 0), (.int .u32 0), (.int .i64 0), (.int .u32 0), (.int .u32 0), (.int .i64 0), (.int .i64 0)] 65)) (.cells #[(.int .i64 0), (.int .i64 0), (.int .u32 0), (.int .u32 0), (.int .i64 0), (.int .u32 0), (.int .u32 0), (.int .i64 0), (.int .i64 0)] 65)) (Addr.add (Addr.add a7 (x2.toNat * 9)) 4)) = (some v12)) ∧ (((cellAt (Array.push (Array.push h5 (.cells #[(.int .i64 0), (.int .i64 0), (.int .u32 0), (.int .u32 0), (.int .i64 0), (.int .u32 0), (.int .u32 0), (.int .i64 0), (.int .i64 0)] 65)) (.cells #[(.int .i64 0), (.int .i64 0), (.int .u32 0), (.int .u32 0), (.int .i64 0), (.int .u32 0), (.int .u32 0), (.int .i64 0), (.int .i64 0)] 65)) (Addr.add (Addr.add a7 (x2.toNat * 9)) 5)) = (some v13)) ∧ (((cellAt (Array.push (Array.push h5 (.cells #[(.int .i64 0), (.int .i64 0), (.int .u32 0), (.int .u32 0), (.int .i64 0), (.int .u32 0), (.int .u32 0), (.int .i64 0), (.int .i64 0)] 65)) (.cells #[(.int .i64 0), (.int .i64 0), (.int .u32 0), (.int .u32 0), (.int .i64 0), (.int .u32 0), (.int .u32 0), (.int .i64 0), (.int .i64 0)] 65)) (Addr.add (Addr.add a7 (x2.toNat * 9)) 6)) = (some v14)) ∧ (((cellAt (Array.push (Array.push h5 (.cells #[(.int .i64 0), (.int .i64 0), (.int .u32 0), (.int .u32 0), (.int .i64 0), (.int .u32 0), (.int .u32 0), (.int .i64 0), (.int .i64 0)] 65)) (.cells #[(.int .i64 0), (.int .i64 0), (.int .u32 0), (.int .u32 0), (.int .i64 0), (.int .u32 0), (.int .u32 0), (.int .i64 0), (.int .i64 0)] 65)) (Addr.add (Addr.add a7 (x2.toNat * 9)) 7)) = (some v15)) ∧ (((cellAt (Array.push (Array.push h5 (.cells #[(.int .i64 0), (.int .i64 0), (.int .u32 0), (.int .u32 0), (.int .i64 0), (.int .u32 0), (.int .u32 0), (.int .i64 0), (.int .i64 0)] 65)) (.cells #[(.int .i64 0), (.int .i64 0), (.int .u32 0), (.int .u32 0), (.int .i64 0), (.int .u32 0), (.int .u32 0), (.int .i64 0), (.int .i64 0)] 65)) (Addr.add (Addr.add a7 (x2.toNat * 9)) 8)) = (some v16)) ∧ (stH (Array.push (Array.push h5 (.cells #[(.int .i64 0), (.int .i64 0), (.int .u32 0), (.int .u32 0), (.int .i64 0), (.int .u32 0), (.int .u32 0), (.int .i64 0), (.int .i64 0)] 65)) (.cells #[(.int .i64 0), (.int .i64 0), (.int .u32 0), (.int .u32 0), (.int .i64 0), (.int .u32 0), (.int .u32 0), (.int .i64 0), (.int .i64 0)] 65)) ⟨(Array.push h5 (.cells #[(.int .i64 0), (.int .i64 0), (.int .u32 0), (.int .u32 0), (.int .i64 0), (.int .u32 0), (.int .u32 0), (.int .i64 0), (.int .i64 0)] 65)).size, 0, none⟩ v8 (fun h95 => (stH h95 ⟨(Array.push h5 (.cells #[(.int .i64 0), (.int .i64 0), (.int .u32 0), (.int .u32 0), (.int .i64 0), (.int .u32 0), (.int .u32 0), (.int .i64 0), (.int .i64 0)] 65)).size, 1, none⟩ v9 (fun h96 => (stH h96 ⟨(Array.push h5 (.cells #[(.int .i64 0), (.int .i64 0), (.int .u32 0), (.int .u32 0), (.int .i64 0), (.int .u32 0), (.int .u32 0), (.int .i64 0), (.int .i64 0)] 65)).size, 2, none⟩ v10 (fun h97 => (stH h97 ⟨(Array.push h5 (.cells #[(.int .i64 0), (.int .i64 0), (.int .u32 0), (.int .u32 0), (.int .i64 0), (.int .u32 0), (.int .u32 0), (.int .i64 0), (.int .i64 0)] 65)).size, 3, none⟩ v11 (fun h98 => (stH h98 ⟨(Array.push h5 (.cells #[(.int .i64 0), (.int .i64 0), (.int .u32 0), (.int .u32 0), (.int .i64 0), (.int .u32 0), (.int .u32 0), (.int .i64 0), (.int .i64 0)] 65)).size, 4, none⟩ v12 (fun h99 => (stH h99 ⟨(Array.push h5 (.cells #[(.int .i64 0), (.int .i64 0), (.int .u32 0), (.int .u32 0), (.int .i64 0), (.int .u32 0), (.int .u32 0), (.int .i64 0), (.int .i64 0)] 65)).size, 5, none⟩ v13 (fun h100 => (stH h100 ⟨(Array.push h5 (.cells #[(.int .i64 0), (.int .i64 0), (.int .u32 0), (.int .u32 0), (.int .i64 0), (.int .u32 0), (.int .u32 0), (.int .i64 0), (.int .i64 0)] 65)).size, 6, none⟩ v14 (fun h101 => (stH h101 ⟨(Array.push h5 (.cells #[(.int .i64 0), (.int .i64 0), (.int .u32 0), (.int .u32 0), (.int .i64 0), (.int .u32 0), (.int .u32 0), (.int .i64 0), (.int .i64 0)] 65)).size, 7, none⟩ v15 (fun h102 => (stH h102 ⟨(Array.push h5 (.cells #[(.int .i64 0), (.int .i64 0), (.int .u32 0), (.int .u32 0), (.int .i64 0), (.int .u32 0), (.int .u32 0), (.int .i64 0), (.int .i64 0)] 65)).size, 8, none⟩ v16 (fun h103 => (((cellAt h103 (Addr.add a17 (x3.toNat * 9))) = (some v18)) ∧ (((cellAt h103 (Addr.add (Addr.add a17 (x3.toNat * 9)) 1)) = (some v19)) ∧ (((cellAt h103 (Addr.add (Addr.add a17 (x3.toNat * 9)) 2)) = (some v20)) ∧ (((cellAt h103 (Addr.add (Addr.add a17 (x3.toNat * 9)) 3)) = (some v21)) ∧ (((cellAt h103 (Addr.add (Addr.add a17 (x3.toNat * 9)) 4)) = (some v22)) ∧ (((cellAt h103 (Addr.add (Addr.add a17 (x3.toNat * 9)) 5)) = (some v23)) ∧ (((cellAt h103 (Addr.add (Addr.add a17 (x3.toNat * 9)) 6)) = (some v24)) ∧ (((cellAt h103 (Addr.add (Addr.add a17 (x3.toNat * 9)) 7)) = (some v25)) ∧ (((cellAt h103 (Addr.add (Addr.add a17 (x3.toNat * 9)) 8)) = (some v26)) ∧ (stH h103 ⟨h5.size, 0, none⟩ v18 (fun h104 => (stH h104 ⟨h5.size, 1, none⟩ v19 (fun h105 => (stH h105 ⟨h5.size, 2, none⟩ v20 (fun h106 => (stH h106 ⟨h5.size, 3, none⟩ v21 (fun h107 => (stH h107 ⟨h5.size, 4, none⟩ v22 (fun h108 => (stH h108 ⟨h5.size, 5, none⟩ v23 (fun h109 => (stH h109 ⟨h5.size, 6, none⟩ v24 (fun h110 => (stH h110 ⟨h5.size, 7, none⟩ v25 (fun h111 => (stH h111 ⟨h5.size, 8, none⟩ v26 (fun h112 => (ifB (x1 == 0) (ldH h112 ⟨(Array.push h5 (.cells #[(.int .i64 0), (.int .i64 0), (.int .u32 0), (.int .u32 0), (.int .i64 0), (.int .u32 0), (.int .u32 0), (.int .i64 0), (.int .i64 0)] 65)).size, 0, none⟩ (fun v113 => (ldH h112 ⟨(Array.push h5 (.cells #[(.int .i64 0), (.int .i64 0), (.int .u32 0), (.int .u32 0), (.int .i64 0), (.int .u32 0), (.int .u32 0), (.int .i64 0), (.int .i64 0)] 65)).size, 1, none⟩ (fun v114 => (ldH h112 ⟨(Array.push h5 (.cells #[(.int .i64 0), (.int .i64 0), (.int .u32 0), (.int .u32 0), (.int .i64 0), (.int .u32 0), (.int .u32 0), (.int .i64 0), (.int .i64 0)] 65)).size, 2, none⟩ (fun v115 => (ldH h112 ⟨(Array.push h5 (.cells #[(.int .i64 0), (.int .i64 0), (.int .u32 0), (.int .u32 0), (.int .i64 0), (.int .u32 0), (.int .u32 0), (.int .i64 0), (.int .i64 0)] 65)).size, 3, none⟩ (fun v116 => (ldH h112 ⟨(Array.push h5 (.cells #[(.int .i64 0), (.int .i64 0), (.int .u32 0), (.int .u32 0), (.int .i64 0), (.int .u32 0), (.int .u32 0), (.int .i64 0), (.int .i64 0)] 65)).size, 4, none⟩ (fun v117 => (ldH h112 ⟨(Array.push h5 (.cells #[(.int .i64 0), (.int .i64 0), (.int .u32 0), (.int .u32 0), (.int .i64 0), (.int .u32 0), (.int .u32 0), (.int .i64 0), (.int .i64 0)] 65)).size, 5, none⟩ (fun v118 => (ldH h112 ⟨(Array.push h5 (.cells #[(.int .i64 0), (.int .i64 0), (.int .u32 0), (.int .u32 0), (.int .i64 0), (.int .u32 0), (.int .u32 0), (.int .i64 0), (.int .i64 0)] 65)).size, 6, none⟩ (fun v119 => (ldH h112 ⟨(Array.push h5 (.cells #[(.int .i64 0), (.int .i64 0), (.int .u32 0), (.int .u32 0), (.int .i64 0), (.int .u32 0), (.int .u32 0), (.int .i64 0), (.int .i64 0)] 65)).size, 7, none⟩ (fun v120 => (ldH h112 ⟨(Array.push h5 (.cells #[(.int .i64 0), (.int .i64 0), (.int .u32 0), (.int .u32 0), (.int .i64 0), (.int .u32 0), (.int .u32 0), (.int .i64 0), (.int .i64 0)] 65)).size, 8, none⟩ (fun v121 => (ldH h112 ⟨h5.size, 0, none⟩ (fun v122 => (ldH h112 ⟨h5.size, 1, none⟩ (fun v123 => (ldH h112 ⟨h5.size, 2, none⟩ (fun v124 => (ldH h112 ⟨h5.size, 3, none⟩ (fun v125 => (ldH h112 ⟨h5.size, 4, none⟩ (fun v126 => (ldH h112 ⟨h5.size, 5, none⟩ (fun v127 => (ldH h112 ⟨h5.size, 6, none⟩ (fun v128 => (ldH h112 ⟨h5.size, 7, none⟩ (fun v129 => (ldH h112 ⟨h5.size, 8, none⟩ (fun v130 => (callV Try.prog (.func (.func 84) #[] #[]) #[(.agg #[v113, v114, v115, v116, v117, v118, v119, v120, v121]), (.agg #[v122, v123, v124, v125, v126, v127, v128, v129, v130])] h112 (fun v131 h132 => (asBool v131 (fun b133 => (K (.bool b133) h132))))))))))))))))))))))))))))))))))))))))) (ifB (x1 == 1) (ldH h112 ⟨(Array.push h5 (.cells #[(.int .i64 0), (.int .i64 0), (.int .u32 0), (.int .u32 0), (.int .i64 0), (.int .u32 0), (.int .u32 0), (.int .i64 0), (.int .i64 0)] 65)).size, 0, none⟩ (fun v134 => (asInt .i64 v134 (fun n135 => (ldH h112 ⟨h5.size, 0, none⟩ (fun v136 => (asInt .i64 v136 (fun n137 => (ifB (n135 == n137) (ldH h112 ⟨(Array.push h5 (.cells #[(.int .i64 0), (.int .i64 0), (.int .u32 0), (.int .u32 0), (.int .i64 0), (.int .u32 0), (.int .u32 0), (.int .i64 0), (.int .i64 0)] 65)).size, 7, none⟩ (fun v138 => (asInt .i64 v138 (fun n139 => (ldH h112 ⟨h5.size, 7, none⟩ (fun v140 => (asInt .i64 v140 (fun n141 => (K (.bool (decide (n139 < n141))) h112))))))))) (K (.bool false) h112)))))))))) (ifB (x1 == 2) (ldH h112 ⟨(Array.push h5 (.cells #[(.int .i64 0), (.int .i64 0), (.int .u32 0), (.int .u32 0), (.int .i64 0), (.int .u32 0), (.int .u32 0), (.int .i64 0), (.int .i64 0)] 65)).size, 0, none⟩ (fun v142 => (ldH h112 ⟨(Array.push h5 (.cells #[(.int .i64 0), (.int .i64 0), (.int .u32 0), (.int .u32 0), (.int .i64 0), (.int .u32 0), (.int .u32 0), (.int .i64 0), (.int .i64 0)] 65)).size, 1, none⟩ (fun v143 => (ldH h112 ⟨(Array.push h5 (.cells #[(.int .i64 0), (.int .i64 0), (.int .u32 0), (.int .u32 0), (.int .i64 0), (.int .u32 0), (.int .u32 0), (.int .i64 0), (.int .i64 0)] 65)).size, 2, none⟩ (fun v144 => (ldH h112 ⟨(Array.push h5 (.cells #[(.int .i64 0), (.int .i64 0), (.int .u32 0), (.int .u32 0), (.int .i64 0), (.int .u32 0), (.int .u32 0), (.int .i64 0), (.int .i64 0)] 65)).size, 3, none⟩ (fun v145 => (ldH h112 ⟨(Array.push h5 (.cells #[(.int .i64 0), (.int .i64 0), (.int .u32 0), (.int .u32 0), (.int .i64 0), (.int .u32 0), (.int .u32 0), (.int .i64 0), (.int .i64 0)] 65)).size, 4, none⟩ (fun v146 => (ldH h112 ⟨(Array.push h5 (.cells #[(.int .i64 0), (.int .i64 0), (.int .u32 0), (.int .u32 0), (.int .i64 0), (.int .u32 0), (.int .u32 0), (.int .i64 0), (.int .i64 0)] 65)).size, 5, none⟩ (fun v147 => (ldH h112 ⟨(Array.push h5 (.cells #[(.int .i64 0), (.int .i64 0), (.int .u32 0), (.int .u32 0), (.int .i64 0), (.int .u32 0), (.int .u32 0), (.int .i64 0), (.int .i64 0)] 65)).size, 6, none⟩ (fun v148 => (ldH h112 ⟨(Array.push h5 (.cells #[(.int .i64 0), (.int .i64 0), (.int .u32 0), (.int .u32 0), (.int .i64 0), (.int .u32 0), (.int .u32 0), (.int .i64 0), (.int .i64 0)] 65)).size, 7, none⟩ (fun v149 => (ldH h112 ⟨(Array.push h5 (.cells #[(.int .i64 0), (.int .i64 0), (.int .u32 0), (.int .u32 0), (.int .i64 0), (.int .u32 0), (.int .u32 0), (.int .i64 0), (.int .i64 0)] 65)).size, 8, none⟩ (fun v150 => (ldH h112 ⟨h5.size, 0, none⟩ (fun v151 => (ldH h112 ⟨h5.size, 1, none⟩ (fun v152 => (ldH h112 ⟨h5.size, 2, none⟩ (fun v153 => (ldH h112 ⟨h5.size, 3, none⟩ (fun v154 => (ldH h112 ⟨h5.size, 4, none⟩ (fun v155 => (ldH h112 ⟨h5.size, 5, none⟩ (fun v156 => (ldH h112 ⟨h5.size, 6, none⟩ (fun v157 => (ldH h112 ⟨h5.size, 7, none⟩ (fun v158 => (ldH h112 ⟨h5.size, 8, none⟩ (fun v159 => (callV Try.prog (.func (.func 88) #[] #[]) #[(.slice x0a x0l x0c), (.agg #[v142, v143, v144, v145, v146, v147, v148, v149, v150]), (.agg #[v151, v152, v153, v154, v155, v156, v157, v158, v159])] h112 (fun v160 h161 => (asBool v160 (fun b162 => (K (.bool b162) h161))))))))))))))))))))))))))))))))))))))))) (K (.bool false) h112))))))))))))))))))))))))))))))))))))))))))))))))))))))))))))))))))))))))))))))))))))))))))))))))))))))))))))))))))))))))))))))))))))))))))))))
theorem vc73 (K : Value → Heap → Prop) (h : Heap) (x0a : Option Addr) (x0l x0c : Nat) (x1 : Int) (x2 : Int) (x3 : Int) : vc Try.prog (bodyOf Try.f73) (retQ Try.prog Try.f73.results.toList (hasRange (bodyOf Try.f73)) h.size K) (envL [(.slice x0a x0l x0c), (.int .i64 x1), (.int .i64 x2), (.int .i64 x3)]) h = F73 K h x0a x0l x0c x1 x2 x3 := by kernel_rfl
theorem ok73 : fnOk Try.prog Try.f73 4 = true := by kernel_rfl
theorem call73 {K : Value → Heap → Prop} {h : Heap} {x0a : Option Addr} {x0l x0c : Nat} {x1 : Int} {x2 : Int} {x3 : Int} (H : F73 K h x0a x0l x0c x1 x2 x3) : CallH Try.prog 73 #[(.slice x0a x0l x0c), (.int .i64 x1), (.int .i64 x2), (.int .i64 x3)] h K :=
  callH_mk Try.func73 ok73 (Eq.mp (vc73 K h x0a x0l x0c x1 x2 x3).symm H)
/-- jostle/weak.Right$1 -/
def F72 (K : Value → Heap → Prop) (h : Heap) (x0 : Int) (x1 : Int) (c0 : Value) (c1 : Value) : Prop :=
  (asPtr c0 (fun a0 => (ldH h a0 (fun v1 => (asSlice v1 (fun o2 k3 k4 => (asPtr c1 (fun a5 => (ldH h a5 (fun v6 => (asInt .i64 v6 (fun n7 => (callV Try.prog (.func (.func 73) #[] #[]) #[(.slice o2 k3 k4), (.int .i64 n7), (.int .i64 x0), (.int .i64 x1)] h (fun v8 h9 => (asBool v8 (fun b10 => (K (.bool b10) h9)))))))))))))))))
theorem vc72 (K : Value → Heap → Prop) (h : Heap) (x0 : Int) (x1 : Int) (c0 : Value) (c1 : Value) : vc Try.prog (bodyOf Try.f72) (retQ Try.prog Try.f72.results.toList (hasRange (bodyOf Try.f72)) h.size K) (envL [(.int .i64 x0), (.int .i64 x1), c0, c1]) h = F72 K h x0 x1 c0 c1 := by kernel_rfl
theorem ok72 : fnOk Try.prog Try.f72 4 = true := by kernel_rfl
theorem call72 {K : Value → Heap → Prop} {h : Heap} {x0 : Int} {x1 : Int} {c0 : Value} {c1 : Value} (H : F72 K h x0 x1 c0 c1) : CallH Try.prog 72 #[(.int .i64 x0), (.int .i64 x1), c0, c1] h K :=
  callH_mk Try.func72 ok72 (Eq.mp (vc72 K h x0 x1 c0 c1).symm H)
/-- (*jostle/weak.search).has -/
def F110 (K : Value → Heap → Prop) (h : Heap) (x0 : Option Addr) (x1 : Int) : Prop :=
  (nilC (.pointer x0) (asPtr (.pointer x0) (fun a0 => (ldH h (Addr.add a0 3) (fun v1 => (asInt .u64 v1 (fun n2 => (((0 : Int) ≤ x1) ∧ (K (.bool ((IntKind.wrap .u64 ((((BitVec.ofInt 64 (Int.fdiv n2 (2 ^ (min x1.toNat 64)))) &&& (BitVec.ofInt 64 1)).toNat : Nat) : Int)) == 1)) h)))))))))
theorem vc110 (K : Value → Heap → Prop) (h : Heap) (x0 : Option Addr) (x1 : Int) : vc Try.prog (bodyOf Try.f110) (retQ Try.prog Try.f110.results.toList (hasRange (bodyOf Try.f110)) h.size K) (envL [(.pointer x0), (.int .i64 x1)]) h = F110 K h x0 x1 := by kernel_rfl
theorem ok110 : fnOk Try.prog Try.f110 2 = true := by kernel_rfl
theorem call110 {K : Value → Heap → Prop} {h : Heap} {x0 : Option Addr} {x1 : Int} (H : F110 K h x0 x1) : CallH Try.prog 110 #[(.pointer x0), (.int .i64 x1)] h K :=
  callH_mk Try.func110 ok110 (Eq.mp (vc110 K h x0 x1).symm H)
/-- (*jostle/weak.search).full$1 -/
def F109 (K : Value → Heap → Prop) (h : Heap) (x0 : Int) (c0 : Value) : Prop :=
  (asPtr c0 (fun a0 => (ldH h a0 (fun v1 => (asPtrO v1 (fun o2 => (nilC (.pointer o2) (asPtr (.pointer o2) (fun a3 => (ldH h a3 (fun v4 => (asSlice v4 (fun o5 k6 k7 => (((0 : Int) ≤ x0) ∧ (((x0 : Int) < ((k6 : Nat) : Int)) ∧ (asPtr (.pointer o5) (fun a8 => (ldH h (Addr.add (Addr.add a8 (x0.toNat * 9)) 8) (fun v9 => (asInt .i64 v9 (fun n10 => (ifB (decide (n10 ≥ 0)) (asPtr c0 (fun a11 => (ldH h a11 (fun v12 => (asPtrO v12 (fun o13 => (callV Try.prog (.func (.func 110) #[] #[]) #[(.pointer o13), (.int .i64 x0)] h (fun v14 h15 => (asBool v14 (fun b16 => (K (.bool (!b16)) h15))))))))))) (K (.bool false) h)))))))))))))))))))))))
theorem vc109 (K : Value → Heap → Prop) (h : Heap) (x0 : Int) (c0 : Value) : vc Try.prog (bodyOf Try.f109) (retQ Try.prog Try.f109.results.toList (hasRange (bodyOf Try.f109)) h.size K) (envL [(.int .i64 x0), c0]) h = F109 K h x0 c0 := by kernel_rfl
theorem ok109 : fnOk Try.prog Try.f109 2 = true := by kernel_rfl
theorem call109 {K : Value → Heap → Prop} {h : Heap} {x0 : Int} {c0 : Value} (H : F109 K h x0 c0) : CallH Try.prog 109 #[(.int .i64 x0), c0] h K :=
  callH_mk Try.func109 ok109 (Eq.mp (vc109 K h x0 c0).symm H)
/-- (*jostle/weak.search).full -/
def F89 (K : Value → Heap → Prop) (h : Heap) (x0 : Option Addr) : Prop :=
  (ldH (Array.push h (.cells #[(.pointer x0)] 120)) ⟨h.size, 0, none⟩ (fun v0 => (asPtrO v0 (fun o1 => (nilC (.pointer o1) (asPtr (.pointer o1) (fun a2 => (ldH (Array.push h (.cells #[(.pointer x0)] 120)) a2 (fun v3 => (asSlice v3 (fun o4 k5 k6 => (callV Try.prog (.func (.func 79) #[] #[]) #[(.int .i64 0), (.int .i64 ((k5 : Nat) : Int))] (Array.push h (.cells #[(.pointer x0)] 120)) (fun v7 h8 => (callV Try.prog (.func (.func 78) #[] #[]) #[v7, (.func (.func 109) #[] #[(.pointer (some ⟨h.size, 0, none⟩))])] h8 (fun v9 h10 => (asBool v9 (fun b11 => (K (.bool (!b11)) h10))))))))))))))))))
theorem vc89 (K : Value → Heap → Prop) (h : Heap) (x0 : Option Addr) : vc Try.prog (bodyOf Try.f89) (retQ Try.prog Try.f89.results.toList (hasRange (bodyOf Try.f89)) h.size K) (envL [(.pointer x0)]) h = F89 K h x0 := by kernel_rfl
theorem ok89 : fnOk Try.prog Try.f89 1 = true := by kernel_rfl
theorem call89 {K : Value → Heap → Prop} {h : Heap} {x0 : Option Addr} (H : F89 K h x0) : CallH Try.prog 89 #[(.pointer x0)] h K :=
  callH_mk Try.func89 ok89 (Eq.mp (vc89 K h x0).symm H)
/-- (*jostle/weak.search).free$1 -/
def F111 (K : Value → Heap → Prop) (h : Heap) (x0 : Int) (c0 : Value) (c1 : Value) : Prop :=
  (asPtr c0 (fun a0 => (ldH h a0 (fun v1 => (asPtrO v1 (fun o2 => (callV Try.prog (.func (.func 110) #[] #[]) #[(.pointer o2), (.int .i64 x0)] h (fun v3 h4 => (asBool v3 (fun b5 => (ifB b5 (asPtr c0 (fun a6 => (ldH h4 a6 (fun v7 => (asPtrO v7 (fun o8 => (nilC (.pointer o8) (asPtr (.pointer o8) (fun a9 => (ldH h4 (Addr.add a9 1) (fun v10 => (asPtr c1 (fun a11 => (ldH h4 a11 (fun v12 => (asInt .i64 v12 (fun n13 => (callV Try.prog v10 #[(.int .i64 n13), (.int .i64 x0)] h4 (fun v14 h15 => (asBool v14 (fun b16 => (ifB b16 (K (.bool true) h15) (asPtr c1 (fun a17 => (ldH h15 a17 (fun v18 => (asInt .i64 v18 (fun n19 => (ifB (x0 != n19) (asPtr c0 (fun a20 => (ldH h15 a20 (fun v21 => (asPtrO v21 (fun o22 => (callV Try.prog (.func (.func 110) #[] #[]) #[(.pointer o22), (.int .i64 x0)] h15 (fun v23 h24 => (asBool v23 (fun b25 => (ifB (!b25) (asPtr c0 (fun a26 => (ldH h24 a26 (fun v27 => (asPtrO v27 (fun o28 => (nilC (.pointer o28) (asPtr (.pointer o28) (fun a29 => (ldH h24 a29 (fun v30 => (asSlice v30 (fun o31 k32 k33 => (((0 : Int) ≤ x0) ∧ (((x0 : Int) < ((k32 : Nat) : Int)) ∧ (asPtr (.pointer o31) (fun a34 => (ldH h24 (Addr.add (Addr.add a34 (x0.toNat * 9)) 8) (fun v35 => (asInt .i64 v35 (fun n36 => (ifB (decide (n36 ≥ 0)) (asPtr c0 (fun a37 => (ldH h24 a37 (fun v38 => (asPtrO v38 (fun o39 => (nilC (.pointer o39) (asPtr (.pointer o39) (fun a40 => (ldH h24 (Addr.add a40 1) (fun v41 => (asPtr c1 (fun a42 => (ldH h24 a42 (fun v43 => (asInt .i64 v43 (fun n44 => (callV Try.prog v41 #[(.int .i64 x0), (.int .i64 n44)] h24 (fun v45 h46 => (asBool v45 (fun b47 => (K (.bool b47) h46)))))))))))))))))))))) (K (.bool false) h24))))))))))))))))))))))) (K (.bool false) h24)))))))))))) (K (.bool false) h15)))))))))))))))))))))))))))))) (asPtr c1 (fun a48 => (ldH h4 a48 (fun v49 => (asInt .i64 v49 (fun n50 => (ifB (x0 != n50) (asPtr c0 (fun a51 => (ldH h4 a51 (fun v52 => (asPtrO v52 (fun o53 => (callV Try.prog (.func (.func 110) #[] #[]) #[(.pointer o53), (.int .i64 x0)] h4 (fun v54 h55 => (asBool v54 (fun b56 => (ifB (!b56) (asPtr c0 (fun a57 => (ldH h55 a57 (fun v58 => (asPtrO v58 (fun o59 => (nilC (.pointer o59) (asPtr (.pointer o59) (fun a60 => (ldH h55 a60 (fun v61 => (asSlice v61 (fun o62 k63 k64 => (((0 : Int) ≤ x0) ∧ (((x0 : Int) < ((k63 : Nat) : Int)) ∧ (asPtr (.pointer o62) (fun a65 => (ldH h55 (Addr.add (Addr.add a65 (x0.toNat * 9)) 8) (fun v66 => (asInt .i64 v66 (fun n67 => (ifB (decide (n67 ≥ 0)) (asPtr c0 (fun a68 => (ldH h55 a68 (fun v69 => (asPtrO v69 (fun o70 => (nilC (.pointer o70) (asPtr (.pointer o70) (fun a71 => (ldH h55 (Addr.add a71 1) (fun v72 => (asPtr c1 (fun a73 => (ldH h55 a73 (fun v74 => (asInt .i64 v74 (fun n75 => (callV Try.prog v72 #[(.int .i64 x0), (.int .i64 n75)] h55 (fun v76 h77 => (asBool v76 (fun b78 => (K (.bool b78) h77)))))))))))))))))))))) (K (.bool false) h55))))))))))))))))))))))) (K (.bool false) h55)))))))))))) (K (.bool false) h4)))))))))))))))))))
theorem vc111 (K : Value → Heap → Prop) (h : Heap) (x0 : Int) (c0 : Value) (c1 : Value) : vc Try.prog (bodyOf Try.f111) (retQ Try.prog Try.f111.results.toList (hasRange (bodyOf Try.f111)) h.size K) (envL [(.int .i64 x0), c0, c1]) h = F111 K h x0 c0 c1 := by kernel_rfl
theorem ok111 : fnOk Try.prog Try.f111 3 = true := by kernel_rfl
theorem call111 {K : Value → Heap → Prop} {h : Heap} {x0 : Int} {c0 : Value} {c1 : Value} (H : F111 K h x0 c0 c1) : CallH Try.prog 111 #[(.int .i64 x0), c0, c1] h K :=
  callH_mk Try.func111 ok111 (Eq.mp (vc111 K h x0 c0 c1).symm H)
/-- (*jostle/weak.search).free -/
def F91 (K : Value → Heap → Prop) (h : Heap) (x0 : Option Addr) (x1 : Int) : Prop :=
  (ldH (Array.push (Array.push h (.cells #[(.pointer x0)] 120)) (.cells #[(.int .i64 x1)] 3)) ⟨h.size, 0, none⟩ (fun v0 => (asPtrO v0 (fun o1 => (ldH (Array.push (Array.push h (.cells #[(.pointer x0)] 120)) (.cells #[(.int .i64 x1)] 3)) ⟨(Array.push h (.cells #[(.pointer x0)] 120)).size, 0, none⟩ (fun v2 => (asInt .i64 v2 (fun n3 => (callV Try.prog (.func (.func 110) #[] #[]) #[(.pointer o1), (.int .i64 n3)] (Array.push (Array.push h (.cells #[(.pointer x0)] 120)) (.cells #[(.int .i64 x1)] 3)) (fun v4 h5 => (asBool v4 (fun b6 => (ifB b6 (K (.bool false) h5) (ldH h5 ⟨h.size, 0, none⟩ (fun v7 => (asPtrO v7 (fun o8 => (nilC (.pointer o8) (asPtr (.pointer o8) (fun a9 => (ldH h5 a9 (fun v10 => (asSlice v10 (fun o11 k12 k13 => (callV Try.prog (.func (.func 79) #[] #[]) #[(.int .i64 0), (.int .i64 ((k12 : Nat) : Int))] h5 (fun v14 h15 => (callV Try.prog (.func (.func 78) #[] #[]) #[v14, (.func (.func 111) #[] #[(.pointer (some ⟨h.size, 0, none⟩)), (.pointer (some ⟨(Array.push h (.cells #[(.pointer x0)] 120)).size, 0, none⟩))])] h15 (fun v16 h17 => (asBool v16 (fun b18 => (K (.bool (!b18)) h17)))))))))))))))))))))))))))))))
theorem vc91 (K : Value → Heap → Prop) (h : Heap) (x0 : Option Addr) (x1 : Int) : vc Try.prog (bodyOf Try.f91) (retQ Try.prog Try.f91.results.toList (hasRange (bodyOf Try.f91)) h.size K) (envL [(.pointer x0), (.int .i64 x1)]) h = F91 K h x0 x1 := by kernel_rfl
theorem ok91 : fnOk Try.prog Try.f91 2 = true := by kernel_rfl
theorem call91 {K : Value → Heap → Prop} {h : Heap} {x0 : Option Addr} {x1 : Int} (H : F91 K h x0 x1) : CallH Try.prog 91 #[(.pointer x0), (.int .i64 x1)] h K :=
  callH_mk Try.func91 ok91 (Eq.mp (vc91 K h x0 x1).symm H)
/-- jostle/weak.text -/
def F90 (K : Value → Heap → Prop) (h : Heap) (x0 : Option Addr) : Prop :=
  (callV Try.prog (.func (.func 21) #[] #[]) #[(.pointer x0)] h (fun v0 h1 => (asSlice v0 (fun o2 k3 k4 => (exI (fun I5 => (exM (fun m6 => ((I5 [(.slice none 0 0), (.tuple #[]), (.int .i64 0), (.tuple #[])] h1) ∧ (∀ v7 : Value, (∀ v8 : Value, (∀ v9 : Value, (∀ v10 : Value, (∀ g11 : Env, (∀ h12 : Heap, ((I5 [v7, v8, v9, v10] h12) → (asInt .i64 v9 (fun n13 => (ifB (decide (n13 < ((k3 : Nat) : Int))) (asI v9 (fun n14 => (((0 : Int) ≤ n14) ∧ (((n14 : Int) < ((k3 : Nat) : Int)) ∧ (asPtr (.pointer o2) (fun a15 => (ldH h12 (Addr.add a15 (n14.toNat * 2)) (fun v16 => (ldH h12 (Addr.add (Addr.add a15 (n14.toNat * 2)) 1) (fun v17 => (stH (Array.push h12 (.cells #[(.int .u32 0), (.int .u32 0)] 29)) ⟨h12.size, 0, none⟩ v16 (fun h18 => (stH h18 ⟨h12.size, 1, none⟩ v17 (fun h19 => (exI (fun I20 => (exM (fun m21 => ((I20 [v7, v8, (.int .i64 0)] h19) ∧ (∀ v22 : Value, (∀ v23 : Value, (∀ v24 : Value, (∀ g25 : Env, (∀ h26 : Heap, ((I20 [v22, v23, v24] h26) → (asInt .i64 v24 (fun n27 => (ifB (decide (n27 < 4)) (asInt .i64 v24 (fun n28 => (asSlice v22 (fun o29 k30 k31 => (ldH h26 ⟨h12.size, 0, none⟩ (fun v32 => (asInt .u32 v32 (fun n33 => (((0 : Int) ≤ (IntKind.wrap .i64 (8 * n28))) ∧ (ldH h26 ⟨h12.size, 1, none⟩ (fun v34 => (asInt .u32 v34 (fun n35 => (((0 : Int) ≤ (IntKind.wrap .i64 (8 * n28))) ∧ (appH Try.prog #[151, 151] 151 #[(.slice o29 k30 k31), (.slice (some ⟨h26.size, 0, none⟩) 2 2)] (Array.push h26 (.cells #[(.int .u8 (IntKind.wrap .u8 (Int.fdiv n33 (2 ^ (min (IntKind.wrap .i64 (8 * n28)).toNat 32))))), (.int .u8 (IntKind.wrap .u8 (Int.fdiv n35 (2 ^ (min (IntKind.wrap .i64 (8 * n28)).toNat 32)))))] 5)) (fun v36 h37 => (asSlice v36 (fun o38 k39 k40 => (asInt .i64 v24 (fun n41 => ((I20 [(.slice o38 k39 k40), (.int .i64 n28), (.int .i64 (IntKind.wrap .i64 (n41 + 1)))] h37) ∧ ((m21 [(.slice o38 k39 k40), (.int .i64 n28), (.int .i64 (IntKind.wrap .i64 (n41 + 1)))] h37) < (m21 [v22, v23, v24] h26))))))))))))))))))))))) (asInt .i64 v9 (fun n42 => ((I5 [v22, v23, (.int .i64 (IntKind.wrap .i64 (n42 + 1))), v24] h26) ∧ ((m6 [v22, v23, (.int .i64 (IntKind.wrap .i64 (n42 + 1))), v24] h26) < (m6 [v7, v8, v9, v10] h12))))))))))))))))))))))))))))))))) (asSlice v7 (fun o43 k44 k45 => (cvtH Try.prog 151 9 (.slice o43 k44 k45) h12 (fun v46 h47 => (asStr v46 (fun s48 => (K (.string s48) h47))))))))))))))))))))))))))
theorem vc90 (K : Value → Heap → Prop) (h : Heap) (x0 : Option Addr) : vc Try.prog (bodyOf Try.f90) (retQ Try.prog Try.f90.results.toList (hasRange (bodyOf Try.f90)) h.size K) (envL [(.pointer x0)]) h = F90 K h x0 := by kernel_rfl
theorem ok90 : fnOk Try.prog Try.f90 1 = true := by kernel_rfl
theorem call90 {K : Value → Heap → Prop} {h : Heap} {x0 : Option Addr} (H : F90 K h x0) : CallH Try.prog 90 #[(.pointer x0)] h K :=
  callH_mk Try.func90 ok90 (Eq.mp (vc90 K h x0).symm H)
/-- jostle/weak.answers -/
def F112 (K : Value → Heap → Prop) (h : Heap) (x0_0 : Int) (x0_1_0 : Int) (x0_1_1 : Int) (x0_1_2 : Int) (x0_2_0 : Int) (x0_2_1 : Int) (x0_2_2 : Int) (x0_3 : Int) (x0_4 : Int) (x1 : Option Addr) : Prop :=
  (ldH (Array.push h (.cells #[(.int .i64 x0_0), (.int .i64 x0_1_0), (.int .u32 x0_1_1), (.int .u32 x0_1_2), (.int .i64 x0_2_0), (.int .u32 x0_2_1), (.int .u32 x0_2_2), (.int .i64 x0_3), (.int .i64 x0_4)] 65)) ⟨h.size, 8, none⟩ (fun v0 => (asInt .i64 v0 (fun n1 => (ifB (decide (n1 ≥ 0)) (ldH (Array.push h (.cells #[(.int .i64 x0_0), (.int .i64 x0_1_0), (.int .u32 x0_1_1), (.int .u32 x0_1_2), (.int .i64 x0_2_0), (.int .u32 x0_2_1), (.int .u32 x0_2_2), (.int .i64 x0_3), (.int .i64 x0_4)] 65)) ⟨h.size, 4, none⟩ (fun v2 => (ldH (Array.push h (.cells #[(.int .i64 x0_0), (.int .i64 x0_1_0), (.int .u32 x0_1_1), (.int .u32 x0_1_2), (.int .i64 x0_2_0), (.int .u32 x0_2_1), (.int .u32 x0_2_2), (.int .i64 x0_3), (.int .i64 x0_4)] 65)) (Addr.add ⟨h.size, 0, none⟩ 5) (fun v3 => (ldH (Array.push h (.cells #[(.int .i64 x0_0), (.int .i64 x0_1_0), (.int .u32 x0_1_1), (.int .u32 x0_1_2), (.int .i64 x0_2_0), (.int .u32 x0_2_1), (.int .u32 x0_2_2), (.int .i64 x0_3), (.int .i64 x0_4)] 65)) (Addr.add ⟨h.size, 0, none⟩ 6) (fun v4 => (K (.slice (some ⟨(Array.push h (.cells #[(.int .i64 x0_0), (.int .i64 x0_1_0), (.int .u32 x0_1_1), (.int .u32 x0_1_2), (.int .i64 x0_2_0), (.int .u32 x0_2_1), (.int .u32 x0_2_2), (.int .i64 x0_3), (.int .i64 x0_4)] 65)).size, 0, none⟩) 1 1) (Array.push (Array.push h (.cells #[(.int .i64 x0_0), (.int .i64 x0_1_0), (.int .u32 x0_1_1), (.int .u32 x0_1_2), (.int .i64 x0_2_0), (.int .u32 x0_2_1), (.int .u32 x0_2_2), (.int .i64 x0_3), (.int .i64 x0_4)] 65)) (.cells #[v2, v3, v4] 42))))))))) (ldH (Array.push h (.cells #[(.int .i64 x0_0), (.int .i64 x0_1_0), (.int .u32 x0_1_1), (.int .u32 x0_1_2), (.int .i64 x0_2_0), (.int .u32 x0_2_1), (.int .u32 x0_2_2), (.int .i64 x0_3), (.int .i64 x0_4)] 65)) ⟨h.size, 1, none⟩ (fun v5 => (asInt .i64 v5 (fun n6 => (ifB (n6 == 0) (K (.slice (some ⟨(Array.push h (.cells #[(.int .i64 x0_0), (.int .i64 x0_1_0), (.int .u32 x0_1_1), (.int .u32 x0_1_2), (.int .i64 x0_2_0), (.int .u32 x0_2_1), (.int .u32 x0_2_2), (.int .i64 x0_3), (.int .i64 x0_4)] 65)).size, 0, none⟩) 1 1) (Array.push (Array.push h (.cells #[(.int .i64 x0_0), (.int .i64 x0_1_0), (.int .u32 x0_1_1), (.int .u32 x0_1_2), (.int .i64 x0_2_0), (.int .u32 x0_2_1), (.int .u32 x0_2_2), (.int .i64 x0_3), (.int .i64 x0_4)] 65)) (.cells #[(.int .i64 0), (.int .u32 0), (.int .u32 0)] 42))) (ldH (Array.push h (.cells #[(.int .i64 x0_0), (.int .i64 x0_1_0), (.int .u32 x0_1_1), (.int .u32 x0_1_2), (.int .i64 x0_2_0), (.int .u32 x0_2_1), (.int .u32 x0_2_2), (.int .i64 x0_3), (.int .i64 x0_4)] 65)) ⟨h.size, 1, none⟩ (fun v7 => (asInt .i64 v7 (fun n8 => (ifB (n8 == 2) (K (.slice none 0 0) (Array.push h (.cells #[(.int .i64 x0_0), (.int .i64 x0_1_0), (.int .u32 x0_1_1), (.int .u32 x0_1_2), (.int .i64 x0_2_0), (.int .u32 x0_2_1), (.int .u32 x0_2_2), (.int .i64 x0_3), (.int .i64 x0_4)] 65))) (callV Try.prog (.func (.func 13) #[] #[]) #[(.pointer x1)] (Array.push h (.cells #[(.int .i64 x0_0), (.int .i64 x0_1_0), (.int .u32 x0_1_1), (.int .u32 x0_1_2), (.int .i64 x0_2_0), (.int .u32 x0_2_1), (.int .u32 x0_2_2), (.int .i64 x0_3), (.int .i64 x0_4)] 65)) (fun v9 h10 => (asSlice v9 (fun o11 k12 k13 => (exI (fun I14 => (exM (fun m15 => ((I14 [(.slice none 0 0), (.int .i64 0)] h10) ∧ (∀ v16 : Value, (∀ v17 : Value, (∀ g18 : Env, (∀ h19 : Heap, ((I14 [v16, v17] h19) → (asInt .i64 v17 (fun n20 => (ifB (decide (n20 < ((k12 : Nat) : Int))) (asI v17 (fun n21 => (((0 : Int) ≤ n21) ∧ (((n21 : Int) < ((k12 : Nat) : Int)) ∧ (asPtr (.pointer o11) (fun a22 => (ldH h19 (Addr.add a22 (n21.toNat * 2)) (fun v23 => (ldH h19 (Addr.add (Addr.add a22 (n21.toNat * 2)) 1) (fun v24 => (stH (Array.push h19 (.cells #[(.int .u32 0), (.int .u32 0)] 29)) ⟨h19.size, 0, none⟩ v23 (fun h25 => (stH h25 ⟨h19.size, 1, none⟩ v24 (fun h26 => (asSlice v16 (fun o27 k28 k29 => (ldH h26 ⟨h19.size, 0, none⟩ (fun v30 => (asInt .u32 v30 (fun n31 => (ldH h26 ⟨h19.size, 1, none⟩ (fun v32 => (asInt .u32 v32 (fun n33 => (appH Try.prog #[63, 63] 63 #[(.slice o27 k28 k29), (.slice (some ⟨h26.size, 0, none⟩) 1 1)] (Array.push h26 (.cells #[(.int .i64 2), (.int .u32 n31), (.int .u32 n33)] 42)) (fun v34 h35 => (asSlice v34 (fun o36 k37 k38 => (asInt .i64 v17 (fun n39 => ((I14 [(.slice o36 k37 k38), (.int .i64 (IntKind.wrap .i64 (n39 + 1)))] h35) ∧ ((m15 [(.slice o36 k37 k38), (.int .i64 (IntKind.wrap .i64 (n39 + 1)))] h35) < (m15 [v16, v17] h19))))))))))))))))))))))))))))))))) (asSlice v16 (fun o40 k41 k42 => (K (.slice o40 k41 k42) h19)))))))))))))))))))))))))))))))))))
theorem vc112 (K : Value → Heap → Prop) (h : Heap) (x0_0 : Int) (x0_1_0 : Int) (x0_1_1 : Int) (x0_1_2 : Int) (x0_2_0 : Int) (x0_2_1 : Int) (x0_2_2 : Int) (x0_3 : Int) (x0_4 : Int) (x1 : Option Addr) : vc Try.prog (bodyOf Try.f112) (retQ Try.prog Try.f112.results.toList (hasRange (bodyOf Try.f112)) h.size K) (envL [(.agg #[(.int .i64 x0_0), (.int .i64 x0_1_0), (.int .u32 x0_1_1), (.int .u32 x0_1_2), (.int .i64 x0_2_0), (.int .u32 x0_2_1), (.int .u32 x0_2_2), (.int .i64 x0_3), (.int .i64 x0_4)]), (.pointer x1)]) h = F112 K h x0_0 x0_1_0 x0_1_1 x0_1_2 x0_2_0 x0_2_1 x0_2_2 x0_3 x0_4 x1 := by kernel_rfl
theorem ok112 : fnOk Try.prog Try.f112 2 = true := by kernel_rfl
theorem call112 {K : Value → Heap → Prop} {h : Heap} {x0_0 : Int} {x0_1_0 : Int} {x0_1_1 : Int} {x0_1_2 : Int} {x0_2_0 : Int} {x0_2_1 : Int} {x0_2_2 : Int} {x0_3 : Int} {x0_4 : Int} {x1 : Option Addr} (H : F112 K h x0_0 x0_1_0 x0_1_1 x0_1_2 x0_2_0 x0_2_1 x0_2_2 x0_3 x0_4 x1) : CallH Try.prog 112 #[(.agg #[(.int .i64 x0_0), (.int .i64 x0_1_0), (.int .u32 x0_1_1), (.int .u32 x0_1_2), (.int .i64 x0_2_0), (.int .u32 x0_2_1), (.int .u32 x0_2_2), (.int .i64 x0_3), (.int .i64 x0_4)]), (.pointer x1)] h K :=
  callH_mk Try.func112 ok112 (Eq.mp (vc112 K h x0_0 x0_1_0 x0_1_1 x0_1_2 x0_2_0 x0_2_1 x0_2_2 x0_3 x0_4 x1).symm H)
/-- (*jostle/weak.search).try -/
def F92 (K : Value → Heap → Prop) (h : Heap) (x0 : Option Addr) (x1 : Int) (x2 : Option Addr) : Prop :=
  (nilC (.pointer x0) (asPtr (.pointer x0) (fun a0 => (ldH h a0 (fun v1 => (asSlice v1 (fun o2 k3 k4 => (((0 : Int) ≤ x1) ∧ (((x1 : Int) < ((k3 : Nat) : Int)) ∧ (asPtr (.pointer o2) (fun a5 => (ldH h (Addr.add a5 (x1.toNat * 9)) (fun v6 => (ldH h (Addr.add (Addr.add a5 (x1.toNat * 9)) 1) (fun v7 => (ldH h (Addr.add (Addr.add a5 (x1.toNat * 9)) 2) (fun v8 => (ldH h (Addr.add (Addr.add a5 (x1.toNat * 9)) 3) (fun v9 => (ldH h (Addr.add (Addr.add a5 (x1.toNat * 9)) 4) (fun v10 => (ldH h (Addr.add (Addr.add a5 (x1.toNat * 9)) 5) (fun v11 => (ldH h (Addr.add (Addr.add a5 (x1.toNat * 9)) 6) (fun v12 => (ldH h (Addr.add (Addr.add a5 (x1.toNat * 9)) 7) (fun v13 => (ldH h (Addr.add (Addr.add a5 (x1.toNat * 9)) 8) (fun v14 => (callV Try.prog (.func (.func 112) #[] #[]) #[(.agg #[v6, v7, v8, v9, v10, v11, v12, v13, v14]), (.pointer x2)] h (fun v15 h16 => (asSlice v15 (fun o17 k18 k19 => (exI (fun I20 => (exM (fun m21 => ((I20 [(.bool false), (.tuple #[]), (.tuple #[]), (.int .i64 0)] h16) ∧ (∀ v22 : Value, (∀ v23 : Value, (∀ v24 : Value, (∀ v25 : Value, (∀ g26 : Env, (∀ h27 : Heap, ((I20 [v22, v23, v24, v25] h27) → (asInt .i64 v25 (fun n28 => (ifB (decide (n28 < ((k18 : Nat) : Int))) (asI v25 (fun n29 => (((0 : Int) ≤ n29) ∧ (((n29 : Int) < ((k18 : Nat) : Int)) ∧ (asPtr (.pointer o17) (fun a30 => (ldH h27 (Addr.add a30 (n29.toNat * 3)) (fun v31 => (ldH h27 (Addr.add (Addr.add a30 (n29.toNat * 3)) 1) (fun v32 => (ldH h27 (Addr.add (Addr.add a30 (n29.toNat * 3)) 2) (fun v33 => (stH (Array.push h27 (.cells #[(.int .i64 0), (.int .u32 0), (.int .u32 0)] 42)) ⟨h27.size, 0, none⟩ v31 (fun h34 => (stH h34 ⟨h27.size, 1, none⟩ v32 (fun h35 => (stH h35 ⟨h27.size, 2, none⟩ v33 (fun h36 => (callV Try.prog (.func (.func 87) #[] #[]) #[(.pointer x2)] h36 (fun v37 h38 => (asPtrO v37 (fun o39 => (nilC (.pointer x0) (asPtr (.pointer x0) (fun a40 => (ldH h38 a40 (fun v41 => (asSlice v41 (fun o42 k43 k44 => (((0 : Int) ≤ x1) ∧ (((x1 : Int) < ((k43 : Nat) : Int)) ∧ (asPtr (.pointer o42) (fun a45 => (ldH h38 (Addr.add (Addr.add a45 (x1.toNat * 9)) 1) (fun v46 => (ldH h38 (Addr.add (Addr.add a45 (x1.toNat * 9)) 2) (fun v47 => (ldH h38 (Addr.add (Addr.add a45 (x1.toNat * 9)) 3) (fun v48 => (ldH h38 ⟨h27.size, 0, none⟩ (fun v49 => (ldH h38 ⟨h27.size, 1, none⟩ (fun v50 => (ldH h38 ⟨h27.size, 2, none⟩ (fun v51 => (callV Try.prog (.func (.func 18) #[] #[]) #[(.pointer o39), (.agg #[v46, v47, v48]), (.agg #[v49, v50, v51])] h38 (fun v52 h53 => (asBool v52 (fun b54 => (ifB (!b54) (asInt .i64 v25 (fun n55 => ((I20 [v22, (.pointer o39), v24, (.int .i64 (IntKind.wrap .i64 (n55 + 1)))] h53) ∧ ((m21 [v22, (.pointer o39), v24, (.int .i64 (IntKind.wrap .i64 (n55 + 1)))] h53) < (m21 [v22, v23, v24, v25] h27))))) (nilC (.pointer x0) (asPtr (.pointer x0) (fun a56 => (ldH h53 (Addr.add a56 3) (fun v57 => (asInt .u64 v57 (fun n58 => (((0 : Int) ≤ x1) ∧ (nilC (.pointer x0) (asPtr (.pointer x0) (fun a59 => (stH h53 (Addr.add a59 3) (.int .u64 (IntKind.wrap .u64 ((((BitVec.ofInt 64 n58) ||| (BitVec.ofInt 64 (IntKind.wrap .u64 (1 * (2 ^ (min x1.toNat 64)))))).toNat : Nat) : Int))) (fun h60 => (callV Try.prog (.func (.func 74) #[] #[]) #[(.pointer x0), (.pointer o39)] h60 (fun v61 h62 => (asBool v61 (fun b63 => (nilC (.pointer x0) (asPtr (.pointer x0) (fun a64 => (ldH h62 (Addr.add a64 3) (fun v65 => (asInt .u64 v65 (fun n66 => (((0 : Int) ≤ x1) ∧ (nilC (.pointer x0) (asPtr (.pointer x0) (fun a67 => (stH h62 (Addr.add a67 3) (.int .u64 (IntKind.wrap .u64 ((((BitVec.ofInt 64 n66) &&& (~~~(BitVec.ofInt 64 (IntKind.wrap .u64 (1 * (2 ^ (min x1.toNat 64))))))).toNat : Nat) : Int))) (fun h68 => (ifB b63 (K (.bool true) h68) (asInt .i64 v25 (fun n69 => ((I20 [v22, (.pointer o39), (.bool b63), (.int .i64 (IntKind.wrap .i64 (n69 + 1)))] h68) ∧ ((m21 [v22, (.pointer o39), (.bool b63), (.int .i64 (IntKind.wrap .i64 (n69 + 1)))] h68) < (m21 [v22, v23, v24, v25] h27)))))))))))))))))))))))))))))))))))))))))))))))))))))))))))))))))))))))))))))))))))))) (K (.bool false) h27)))))))))))))))))))))))))))))))))))))))))))))))))
theorem vc92 (K : Value → Heap → Prop) (h : Heap) (x0 : Option Addr) (x1 : Int) (x2 : Option Addr) : vc Try.prog (bodyOf Try.f92) (retQ Try.prog Try.f92.results.toList (hasRange (bodyOf Try.f92)) h.size K) (envL [(.pointer x0), (.int .i64 x1), (.pointer x2)]) h = F92 K h x0 x1 x2 := by kernel_rfl
theorem ok92 : fnOk Try.prog Try.f92 3 = true := by kernel_rfl
theorem call92 {K : Value → Heap → Prop} {h : Heap} {x0 : Option Addr} {x1 : Int} {x2 : Option Addr} (H : F92 K h x0 x1 x2) : CallH Try.prog 92 #[(.pointer x0), (.int .i64 x1), (.pointer x2)] h K :=
  callH_mk Try.func92 ok92 (Eq.mp (vc92 K h x0 x1 x2).symm H)
/-- (*jostle/weak.search).from -/
def F74 (K : Value → Heap → Prop) (h : Heap) (x0 : Option Addr) (x1 : Option Addr) : Prop :=
  (callV Try.prog (.func (.func 89) #[] #[]) #[(.pointer x0)] h (fun v0 h1 => (asBool v0 (fun b2 => (ifB b2 (K (.bool true) h1) (nilC (.pointer x0) (asPtr (.pointer x0) (fun a3 => (ldH h1 (Addr.add a3 3) (fun v4 => (asInt .u64 v4 (fun n5 => ((callV Try.prog (.func (.func 90) #[] #[]) #[(.pointer x1)] h1 (fun v6 h7 => (asStr v6 (fun s8 => (((cellAt h7 (Addr.add a3 3)) = (some v4)) ∧ (((cellAt (Array.push h7 (.cells #[(.int .u64 0), (.string (⟨#[]⟩ : ByteArray))] 145)) (Addr.add a3 3)) = (some v4)) ∧ (stH (Array.push h7 (.cells #[(.int .u64 0), (.string (⟨#[]⟩ : ByteArray))] 145)) ⟨h7.size, 0, none⟩ (.int .u64 n5) (fun h9 => (stH h9 ⟨h7.size, 1, none⟩ (.string s8) (fun h10 => (nilC (.pointer x0) (asPtr (.pointer x0) (fun a11 => (ldH h10 (Addr.add a11 2) (fun v12 => (asMap v12 (fun o13 => (ldH h10 ⟨h7.size, 0, none⟩ (fun v14 => (ldH h10 ⟨h7.size, 1, none⟩ (fun v15 => (lookH Try.prog 121 (.map o13) (.agg #[v14, v15]) false h10 (fun v16 h17 => (asBool v16 (fun b18 => (ifB b18 (K (.bool false) h17) (nilC (.pointer x0) (asPtr (.pointer x0) (fun a19 => (ldH h17 (Addr.add a19 2) (fun v20 => (asMap v20 (fun o21 => (ldH h17 ⟨h7.size, 0, none⟩ (fun v22 => (ldH h17 ⟨h7.size, 1, none⟩ (fun v23 => (mupdH Try.prog 121 (.map o21) (.agg #[v22, v23]) (.bool true) h17 (fun h24 => (nilC (.pointer x0) (asPtr (.pointer x0) (fun a25 => (ldH h24 a25 (fun v26 => (asSlice v26 (fun o27 k28 k29 => (exI (fun I30 => (exM (fun m31 => ((I30 [(.bool false), (.tuple #[]), (.int .i64 0)] h24) ∧ (∀ v32 : Value, (∀ v33 : Value, (∀ v34 : Value, (∀ g35 : Env, (∀ h36 : Heap, ((I30 [v32, v33, v34] h36) → (asInt .i64 v34 (fun n37 => (ifB (decide (n37 < ((k28 : Nat) : Int))) (asInt .i64 v34 (fun n38 => (exI (fun I39 => ((callV Try.prog (.func (.func 91) #[] #[]) #[(.pointer x0), (.int .i64 n38)] h36 (fun v40 h41 => (asBool v40 (fun b42 => (ifB b42 (callV Try.prog (.func (.func 92) #[] #[]) #[(.pointer x0), (.int .i64 n38), (.pointer x1)] h41 (fun v43 h44 => (asBool v43 (fun b45 => (I39 [(.bool b45)] h44))))) (I39 [(.bool false)] h41)))))) ∧ (∀ v46 : Value, (∀ g47 : Env, (∀ h48 : Heap, ((I39 [v46] h48) → (asBool v46 (fun b49 => (ifB b49 (K (.bool true) h48) (asInt .i64 v34 (fun n50 => ((I30 [v32, (.int .i64 n38), (.int .i64 (IntKind.wrap .i64 (n50 + 1)))] h48) ∧ ((m31 [v32, (.int .i64 n38), (.int .i64 (IntKind.wrap .i64 (n50 + 1)))] h48) < (m31 [v32, v33, v34] h36))))))))))))))))) (K (.bool false) h36))))))))))))))))))))))))))))))))))))))))))))))))))))))))))))) ∧ (((cellAt (Array.push h1 (.cells #[(.int .u64 0), (.string (⟨#[]⟩ : ByteArray))] 145)) (Addr.add a3 3)) = (some v4)) ∧ (callV Try.prog (.func (.func 90) #[] #[]) #[(.pointer x1)] (Array.push h1 (.cells #[(.int .u64 0), (.string (⟨#[]⟩ : ByteArray))] 145)) (fun v51 h52 => (asStr v51 (fun s53 => (((cellAt h52 (Addr.add a3 3)) = (some v4)) ∧ (stH h52 ⟨h1.size, 0, none⟩ (.int .u64 n5) (fun h54 => (stH h54 ⟨h1.size, 1, none⟩ (.string s53) (fun h55 => (nilC (.pointer x0) (asPtr (.pointer x0) (fun a56 => (ldH h55 (Addr.add a56 2) (fun v57 => (asMap v57 (fun o58 => (ldH h55 ⟨h1.size, 0, none⟩ (fun v59 => (ldH h55 ⟨h1.size, 1, none⟩ (fun v60 => (lookH Try.prog 121 (.map o58) (.agg #[v59, v60]) false h55 (fun v61 h62 => (asBool v61 (fun b63 => (ifB b63 (K (.bool false) h62) (nilC (.pointer x0) (asPtr (.pointer x0) (fun a64 => (ldH h62 (Addr.add a64 2) (fun v65 => (asMap v65 (fun o66 => (ldH h62 ⟨h1.size, 0, none⟩ (fun v67 => (ldH h62 ⟨h1.size, 1, none⟩ (fun v68 => (mupdH Try.prog 121 (.map o66) (.agg #[v67, v68]) (.bool true) h62 (fun h69 => (nilC (.pointer x0) (asPtr (.pointer x0) (fun a70 => (ldH h69 a70 (fun v71 => (asSlice v71 (fun o72 k73 k74 => (exI (fun I75 => (exM (fun m76 => ((I75 [(.bool false), (.tuple #[]), (.int .i64 0)] h69) ∧ (∀ v77 : Value, (∀ v78 : Value, (∀ v79 : Value, (∀ g80 : Env, (∀ h81 : Heap, ((I75 [v77, v78, v79] h81) → (asInt .i64 v79 (fun n82 => (ifB (decide (n82 < ((k73 : Nat) : Int))) (asInt .i64 v79 (fun n83 => (exI (fun I84 => ((callV Try.prog (.func (.func 91) #[] #[]) #[(.pointer x0), (.int .i64 n83)] h81 (fun v85 h86 => (asBool v85 (fun b87 => (ifB b87 (callV Try.prog (.func (.func 92) #[] #[]) #[(.pointer x0), (.int .i64 n83), (.pointer x1)] h86 (fun v88 h89 => (asBool v88 (fun b90 => (I84 [(.bool b90)] h89))))) (I84 [(.bool false)] h86)))))) ∧ (∀ v91 : Value, (∀ g92 : Env, (∀ h93 : Heap, ((I84 [v91] h93) → (asBool v91 (fun b94 => (ifB b94 (K (.bool true) h93) (asInt .i64 v79 (fun n95 => ((I75 [v77, (.int .i64 n83), (.int .i64 (IntKind.wrap .i64 (n95 + 1)))] h93) ∧ ((m76 [v77, (.int .i64 n83), (.int .i64 (IntKind.wrap .i64 (n95 + 1)))] h93) < (m76 [v77, v78, v79] h81))))))))))))))))) (K (.bool false) h81))))))))))))))))))))))))))))))))))))))))))))))))))))))))))))))))))))))))))
theorem vc74 (K : Value → Heap → Prop) (h : Heap) (x0 : Option Addr) (x1 : Option Addr) : vc Try.prog (bodyOf Try.f74) (retQ Try.prog Try.f74.results.toList (hasRange (bodyOf Try.f74)) h.size K) (envL [(.pointer x0), (.pointer x1)]) h = F74 K h x0 x1 := by kernel_rfl
theorem ok74 : fnOk Try.prog Try.f74 2 = true := by kernel_rfl
theorem call74 {K : Value → Heap → Prop} {h : Heap} {x0 : Option Addr} {x1 : Option Addr} (H : F74 K h x0 x1) : CallH Try.prog 74 #[(.pointer x0), (.pointer x1)] h K :=
  callH_mk Try.func74 ok74 (Eq.mp (vc74 K h x0 x1).symm H)
/-- jostle/weak.Right -/
def F53 (K : Value → Heap → Prop) (h : Heap) (x0a : Option Addr) (x0l x0c : Nat) (x1 : Int) : Prop :=
  (exI (fun I0 => ((ldH (Array.push (Array.push h (.cells #[(.slice x0a x0l x0c)] 59)) (.cells #[(.int .i64 x1)] 3)) ⟨(Array.push h (.cells #[(.slice x0a x0l x0c)] 59)).size, 0, none⟩ (fun v1 => (asInt .i64 v1 (fun n2 => (ifB (decide (n2 < 0)) (I0 [(.bool true), (.bool true)] (Array.push (Array.push h (.cells #[(.slice x0a x0l x0c)] 59)) (.cells #[(.int .i64 x1)] 3))) (ldH (Array.push (Array.push h (.cells #[(.slice x0a x0l x0c)] 59)) (.cells #[(.int .i64 x1)] 3)) ⟨(Array.push h (.cells #[(.slice x0a x0l x0c)] 59)).size, 0, none⟩ (fun v3 => (asInt .i64 v3 (fun n4 => (ifB (decide (n4 > 2)) (I0 [(.bool (decide (n4 > 2))), (.bool true)] (Array.push (Array.push h (.cells #[(.slice x0a x0l x0c)] 59)) (.cells #[(.int .i64 x1)] 3))) (ldH (Array.push (Array.push h (.cells #[(.slice x0a x0l x0c)] 59)) (.cells #[(.int .i64 x1)] 3)) ⟨h.size, 0, none⟩ (fun v5 => (asSlice v5 (fun o6 k7 k8 => (I0 [(.bool (decide (n4 > 2))), (.bool (decide (((k7 : Nat) : Int) > 16)))] (Array.push (Array.push h (.cells #[(.slice x0a x0l x0c)] 59)) (.cells #[(.int .i64 x1)] 3))))))))))))))))) ∧ (∀ v9 : Value, (∀ v10 : Value, (∀ g11 : Env, (∀ h12 : Heap, ((I0 [v9, v10] h12) → (asBool v10 (fun b13 => (ifB b13 (K (.bool false) h12) (ldH h12 ⟨h.size, 0, none⟩ (fun v14 => (asSlice v14 (fun o15 k16 k17 => (nilC (.pointer (some ⟨(Array.push h12 (.map #[] 0)).size, 0, none⟩)) (stH (Array.push (Array.push h12 (.map #[] 0)) (.cells #[(.slice o15 k16 k17), .nilFunc, (.map (some h12.size)), (.int .u64 0)] 124)) ⟨(Array.push h12 (.map #[] 0)).size, 1, none⟩ (.func (.func 72) #[] #[(.pointer (some ⟨h.size, 0, none⟩)), (.pointer (some ⟨(Array.push h (.cells #[(.slice x0a x0l x0c)] 59)).size, 0, none⟩))]) (fun h18 => (callV Try.prog (.func (.func 74) #[] #[]) #[(.pointer (some ⟨(Array.push h12 (.map #[] 0)).size, 0, none⟩)), (.pointer (some ⟨h18.size, 0, none⟩))] (Array.push h18 (.cells #[(.slice none 0 0)] 25)) (fun v19 h20 => (asBool v19 (fun b21 => (K (.bool b21) h20)))))))))))))))))))))))
theorem vc53 (K : Value → Heap → Prop) (h : Heap) (x0a : Option Addr) (x0l x0c : Nat) (x1 : Int) : vc Try.prog (bodyOf Try.f53) (retQ Try.prog Try.f53.results.toList (hasRange (bodyOf Try.f53)) h.size K) (envL [(.slice x0a x0l x0c), (.int .i64 x1)]) h = F53 K h x0a x0l x0c x1 := by kernel_rfl
theorem ok53 : fnOk Try.prog Try.f53 2 = true := by kernel_rfl
theorem call53 {K : Value → Heap → Prop} {h : Heap} {x0a : Option Addr} {x0l x0c : Nat} {x1 : Int} (H : F53 K h x0a x0l x0c x1) : CallH Try.prog 53 #[(.slice x0a x0l x0c), (.int .i64 x1)] h K :=
  callH_mk Try.func53 ok53 (Eq.mp (vc53 K h x0a x0l x0c x1).symm H)
/-- jostle/weak.Ranks -/
def F33 (K : Value → Heap → Prop) (h : Heap) (x0a : Option Addr) (x0l x0c : Nat) : Prop :=
  (callV Try.prog (.func (.func 53) #[] #[]) #[(.slice x0a x0l x0c), (.int .i64 0)] (Array.push h (.cells #[(.bool false), (.bool false), (.bool false)] 73)) (fun v0 h1 => (asBool v0 (fun b2 => (callV Try.prog (.func (.func 53) #[] #[]) #[(.slice x0a x0l x0c), (.int .i64 1)] h1 (fun v3 h4 => (asBool v3 (fun b5 => (callV Try.prog (.func (.func 53) #[] #[]) #[(.slice x0a x0l x0c), (.int .i64 2)] h4 (fun v6 h7 => (asBool v6 (fun b8 => (stH h7 ⟨h.size, 0, none⟩ (.bool b2) (fun h9 => (stH h9 ⟨h.size, 1, none⟩ (.bool b5) (fun h10 => (stH h10 ⟨h.size, 2, none⟩ (.bool b8) (fun h11 => (ldH h11 ⟨h.size, 0, none⟩ (fun v12 => (ldH h11 ⟨h.size, 1, none⟩ (fun v13 => (ldH h11 ⟨h.size, 2, none⟩ (fun v14 => (K (.agg #[v12, v13, v14]) h11)))))))))))))))))))))))))
theorem vc33 (K : Value → Heap → Prop) (h : Heap) (x0a : Option Addr) (x0l x0c : Nat) : vc Try.prog (bodyOf Try.f33) (retQ Try.prog Try.f33.results.toList (hasRange (bodyOf Try.f33)) h.size K) (envL [(.slice x0a x0l x0c)]) h = F33 K h x0a x0l x0c := by kernel_rfl
theorem ok33 : fnOk Try.prog Try.f33 1 = true := by kernel_rfl
theorem call33 {K : Value → Heap → Prop} {h : Heap} {x0a : Option Addr} {x0l x0c : Nat} (H : F33 K h x0a x0l x0c) : CallH Try.prog 33 #[(.slice x0a x0l x0c)] h K :=
  callH_mk Try.func33 ok33 (Eq.mp (vc33 K h x0a x0l x0c).symm H)
/-- jostle/jostlelaw39.lives -/
def F32 (K : Value → Heap → Prop) (h : Heap)  : Prop :=
  (callV Try.prog (.func (.func 33) #[] #[]) #[(.slice (some ⟨h.size, 0, none⟩) 2 2)] (Array.push h (.cells #[(.int .i64 0), (.int .i64 0), (.int .u32 1), (.int .u32 0), (.int .i64 0), (.int .u32 0), (.int .u32 0), (.int .i64 0), (.int .i64 1), (.int .i64 1), (.int .i64 1), (.int .u32 0), (.int .u32 0), (.int .i64 3), (.int .u32 0), (.int .u32 0), (.int .i64 2), (.int .i64 3)] 65)) (fun v0 h1 => (asAgg v0 (fun vs2 => (sizeH vs2 3 (elemH vs2 0 (fun v3 => (elemH vs2 1 (fun v4 => (elemH vs2 2 (fun v5 => (eqvH Try.prog 73 (.agg #[v3, v4, v5]) (.agg #[(.bool false), (.bool true), (.bool false)]) (fun b6 => (K (.bool b6) h1))))))))))))))
theorem vc32 (K : Value → Heap → Prop) (h : Heap)  : vc Try.prog (bodyOf Try.f32) (retQ Try.prog Try.f32.results.toList (hasRange (bodyOf Try.f32)) h.size K) (envL []) h = F32 K h  := by kernel_rfl
theorem ok32 : fnOk Try.prog Try.f32 0 = true := by kernel_rfl
theorem call32 {K : Value → Heap → Prop} {h : Heap}  (H : F32 K h ) : CallH Try.prog 32 #[] h K :=
  callH_mk Try.func32 ok32 (Eq.mp (vc32 K h ).symm H)
/-- jostle/jostlelaw39.WeakFollows -/
def F8 (K : Value → Heap → Prop) (h : Heap) (x0a : Option Addr) (x0l x0c : Nat) : Prop :=
  (exI (fun I0 => ((ifB (decide (((x0l : Nat) : Int) > 16)) (I0 [(.bool true), (.bool true)] h) (callV Try.prog (.func (.func 26) #[] #[]) #[(.slice x0a x0l x0c)] h (fun v1 h2 => (asBool v1 (fun b3 => (ifB (!b3) (I0 [(.bool (!b3)), (.bool true)] h2) (callV Try.prog (.func (.func 31) #[] #[]) #[(.slice x0a x0l x0c)] h2 (fun v4 h5 => (asBool v4 (fun b6 => (I0 [(.bool (!b3)), (.bool (!b6))] h5))))))))))) ∧ (∀ v7 : Value, (∀ v8 : Value, (∀ g9 : Env, (∀ h10 : Heap, ((I0 [v7, v8] h10) → (asBool v8 (fun b11 => (ifB b11 (callV Try.prog (.func (.func 32) #[] #[]) #[] h10 (fun v12 h13 => (asBool v12 (fun b14 => (K (.bool b14) h13))))) (callV Try.prog (.func (.func 27) #[] #[]) #[(.slice x0a x0l x0c)] h10 (fun v15 h16 => (asSlice v15 (fun o17 k18 k19 => (callV Try.prog (.func (.func 33) #[] #[]) #[(.slice o17 k18 k19)] h16 (fun v20 h21 => (asAgg v20 (fun vs22 => (sizeH vs22 3 (elemH vs22 0 (fun v23 => (elemH vs22 1 (fun v24 => (elemH vs22 2 (fun v25 => (eqvH Try.prog 73 (.agg #[v23, v24, v25]) (.agg #[(.bool true), (.bool true), (.bool true)]) (fun b26 => (ifB b26 (callV Try.prog (.func (.func 32) #[] #[]) #[] h21 (fun v27 h28 => (asBool v27 (fun b29 => (K (.bool b29) h28))))) (K (.bool false) h21))))))))))))))))))))))))))))))
theorem vc8 (K : Value → Heap → Prop) (h : Heap) (x0a : Option Addr) (x0l x0c : Nat) : vc Try.prog (bodyOf Try.f8) (retQ Try.prog Try.f8.results.toList (hasRange (bodyOf Try.f8)) h.size K) (envL [(.slice x0a x0l x0c)]) h = F8 K h x0a x0l x0c := by kernel_rfl
theorem ok8 : fnOk Try.prog Try.f8 1 = true := by kernel_rfl
theorem call8 {K : Value → Heap → Prop} {h : Heap} {x0a : Option Addr} {x0l x0c : Nat} (H : F8 K h x0a x0l x0c) : CallH Try.prog 8 #[(.slice x0a x0l x0c)] h K :=
  callH_mk Try.func8 ok8 (Eq.mp (vc8 K h x0a x0l x0c).symm H)
end Go.Proofs.Ytlncjcbofgjcfaa
end
section
/- Sequences of structs; a bag's pairs, answers, operations one by one (printed by a program of mine). -/
set_option linter.unusedSimpArgs false
set_option linter.unusedVariables false
set_option maxRecDepth 20000
namespace Go.Proofs.Ytlncjcbofgjcfaa

def op9c (o : Op9) : List Value := o.cells
theorem op9_len : ∀ x : Op9, (op9c x).length = 9 := fun _ => rfl
theorem op9_one (e : Op9) : ∀ y ∈ op9c e, oneC y True := by
  intro y hy
  have : y ∈ [Value.int .i64 e.th, .int .i64 e.op, .int .u32 e.key, .int .u32 e.val, .int .i64 e.kind, .int .u32 e.ak, .int .u32 e.av, .int .i64 e.fr, .int .i64 e.to] := hy
  simp only [List.mem_cons, List.not_mem_nil, or_false] at this
  rcases this with rfl | rfl | rfl | rfl | rfl | rfl | rfl | rfl | rfl <;> exact trivial
section
variable {α β : Type}
/-- What a sequence of structs hands out. -/
def sqG (f : α → List Value) (L : List α) (k : Nat) : Array Value := match L[k]? with | some x => #[.agg (f x).toArray] | none => #[undefV]
theorem sqG_get (f : α → List Value) {L : List α} {k : Nat} (h : k < L.length) : sqG f L k = #[.agg (f L[k]).toArray] := by unfold sqG; rw [List.getElem?_eq_getElem h]
theorem sqG_size (f : α → List Value) (L : List α) (k : Nat) : (sqG f L k).size = 1 := by unfold sqG; split <;> rfl
def SeqG (f : α → List Value) (g : Value) (L : List α) (h : Heap) : Prop :=
  ∃ fn fst cap Ev, g = .func (.func fn) fst cap ∧ SeqH Try.prog g L.length (sqG f L) Ev ∧ Ev h ∧ ∀ h h', Old h.size h h' → Ev h → Ev h'
theorem SeqG.old {f : α → List Value} {g : Value} {L : List α} {h h' : Heap} (H : SeqG f g L h) (ho : Old h.size h h') : SeqG f g L h' := by
  obtain ⟨fn, fst, cap, Ev, e, hs, he, hst⟩ := H
  exact ⟨fn, fst, cap, Ev, e, hs, hst _ _ ho he, hst⟩
/-- A pure test of structs. -/
def KeepG (f : α → List Value) (D : α → Prop) (t : Value) (p : α → Bool) (h : Heap) : Prop :=
  (∃ g x y, t = .func (.func g) x y) ∧ ∃ Ev : Heap → Prop, Ev h ∧ (∀ h h', Old h.size h h' → Ev h → Ev h') ∧
    ∀ (h : Heap) (x : α) (K : Value → Heap → Prop), Ev h → D x → (∀ h', Old h.size h h' → K (.bool (p x)) h') → callV Try.prog t #[.agg (f x).toArray] h K
theorem KeepG.old {f : α → List Value} {D : α → Prop} {t : Value} {p : α → Bool} {h h' : Heap} (H : KeepG f D t p h) (ho : Old h.size h h') : KeepG f D t p h' := by
  obtain ⟨e, Ev, h1, h2, h3⟩ := H
  exact ⟨e, Ev, h2 _ _ ho h1, h2, h3⟩
/-- A pure map of structs. -/
def MapG (f : α → List Value) (f2 : β → List Value) (t : Value) (p : α → β) (h : Heap) : Prop :=
  (∃ g x y, t = .func (.func g) x y) ∧ ∃ Ev : Heap → Prop, Ev h ∧ (∀ h h', Old h.size h h' → Ev h → Ev h') ∧
    ∀ (h : Heap) (x : α) (K : Value → Heap → Prop), Ev h → (∀ h', Old h.size h h' → K (.agg (f2 (p x)).toArray) h') → callV Try.prog t #[.agg (f x).toArray] h K
theorem filterG_at {L : List α} {p : α → Bool} {j : Nat} (hj : j < L.length) (hp : p L[j] = true) :
    ((L.take j).filter p).length < (L.filter p).length ∧ (L.filter p)[((L.take j).filter p).length]? = some L[j] := by
  have e : L.filter p = (L.take j).filter p ++ L[j] :: (L.drop (j + 1)).filter p := by
    conv => lhs; rw [← List.take_append_drop j L, List.filter_append, List.drop_eq_getElem_cons hj, List.filter_cons_of_pos hp]
  rw [e]
  constructor
  · simp
  · simp
theorem filterG_succ {L : List α} {p : α → Bool} {j : Nat} (hj : j < L.length) : ((L.take (j + 1)).filter p).length = ((L.take j).filter p).length + (if p L[j] then 1 else 0) := by
  rw [List.take_succ_eq_append_getElem hj, List.filter_append, List.length_append]
  cases h : p L[j] <;> simp [h]
end
theorem stKP {h : Heap} {b : Nat} {v0 v1 : Value} {K : Heap → Prop} (H : stN h ⟨b, 0, none⟩ 0 [v0, v1] K) : stH h ⟨b, 0, none⟩ v0 fun h => stH h ⟨b, 1, none⟩ v1 K := H
theorem ofP_seq {p : Nat} {a : Option Addr} {l c : Nat} {xs : List Pr} (hl : l < 2 ^ 60) :
    SeqH Try.prog (.func (.func 118) #[] #[.pointer (some ⟨p, 0, none⟩)]) xs.length (sqG prc xs) (fun h => cellAt h ⟨p, 0, none⟩ = some (.slice a l c) ∧ SX prc h a l c xs) := by
  intro yf y1 y2 h N I X hN hev hok hy
  refine callV_cl ?_
  rw [cl2]
  refine call118 ?_
  unfold F118
  have hlen := hev.2.len
  simp only [asPtr_some]
  refine ldH_mk hev.1 ?_
  simp only [asSlice_slice]
  refine ⟨fun vs h' => ∃ k : Nat, vs = [iv k] ∧ k ≤ l ∧ h.size ≤ h'.size ∧ I h.size k h', fun vs _ => (match vs with | [.int _ n] => l - n.toNat | _ => 0), ⟨0, rfl, by omega, Nat.le_refl _, hok.self⟩, ?_⟩
  rintro v7 g h9 ⟨k, e, hk, hs, hI⟩
  cases e
  simp only [asInt_int, asI_int]
  refine ifB_dec (fun hlt => ?_) (fun hge => ?_)
  · have hlt' : k < xs.length := by omega
    obtain ⟨ad, rfl, hc⟩ := SX.at prc_len (by omega) (hok.env _ _ _ hN hs hI).2 hlt'
    refine ⟨by omega, hlt, ?_⟩
    simp only [asPtr_some, Int.toNat_natCast]
    refine ldH_mk (hc 0 _ rfl) (ldH_mk (hc 1 _ rfl) ?_)
    have p1 := pushed h9 #[.int .u32 0, .int .u32 0] 29
    generalize h9.push (.cells #[.int .u32 0, .int .u32 0] 29) = h10 at *
    refine stKP (stN_full (vs := prc xs[k]) p1.new rfl (prc_one _) fun h16 w => ?_)
    have o16 : Old h9.size h9 h16 := w.toOld p1.toOld (Nat.le_refl _)
    refine ldR w.new rfl (ldR w.new rfl ?_)
    have hI16 := hok.keepI _ _ h9 h16 hN hs hI (keep_of_old o16)
    have hyk := hy h.size k h16 hlt' hN (Nat.le_refl _) (Nat.le_trans hs o16.1) hI16
    rw [sqG_get prc hlt'] at hyk
    refine callV_mono ?_ hyk
    rintro w' h'' ⟨hm, ⟨rfl, hI'⟩ | ⟨rfl, hX⟩⟩
    · simp only [asBool_bool, Bool.not_true, ifB_false]
      rw [nat_wrap1 (by omega)]
      refine ⟨⟨k + 1, rfl, by omega, Nat.le_trans hs (Nat.le_trans o16.1 hm.1), hI'⟩, ?_⟩
      show l - ((k + 1 : Nat) : Int).toNat < l - (k : Int).toNat
      omega
    · simp only [asBool_bool, Bool.not_false, ifB_true]
      exact ⟨h.size, hN, Nat.le_refl _, Nat.le_trans hs (Nat.le_trans o16.1 hm.1), .inr hX⟩
  · have : k = xs.length := by omega
    subst this
    exact ⟨h.size, hN, Nat.le_refl _, hs, .inl hI⟩
theorem ofP_call {K : Value → Heap → Prop} {h : Heap} {a : Option Addr} {l c : Nat} {xs : List Pr} (H : SX prc h a l c xs) (hl : l < 2 ^ 60) (k : ∀ g h', SeqG prc g xs h' → Old h.size h h' → K g h') :
    CallH Try.prog 103 #[.slice a l c] h K := by
  refine call103 ?_
  unfold F103
  have o1 : Old h.size h (h.push (.cells #[.slice a l c] 22)) := (Old.refl _ _).push _ (Nat.le_refl _)
  exact k _ _ ⟨_, _, _, _, rfl, ofP_seq hl, ⟨cellAt_row (push_new _ _), H.old o1⟩, fun h1 h2 o e => ⟨cell_stable _ _ o e.1, e.2.old o⟩⟩ o1
theorem stKA {h : Heap} {b : Nat} {v0 v1 v2 : Value} {K : Heap → Prop} (H : stN h ⟨b, 0, none⟩ 0 [v0, v1, v2] K) : stH h ⟨b, 0, none⟩ v0 fun h => stH h ⟨b, 1, none⟩ v1 fun h => stH h ⟨b, 2, none⟩ v2 K := H
theorem ofA_seq {p : Nat} {a : Option Addr} {l c : Nat} {xs : List C3} (hl : l < 2 ^ 60) :
    SeqH Try.prog (.func (.func 100) #[] #[.pointer (some ⟨p, 0, none⟩)]) xs.length (sqG c3c xs) (fun h => cellAt h ⟨p, 0, none⟩ = some (.slice a l c) ∧ SX c3c h a l c xs) := by
  intro yf y1 y2 h N I X hN hev hok hy
  refine callV_cl ?_
  rw [cl2]
  refine call100 ?_
  unfold F100
  have hlen := hev.2.len
  simp only [asPtr_some]
  refine ldH_mk hev.1 ?_
  simp only [asSlice_slice]
  refine ⟨fun vs h' => ∃ k : Nat, vs = [iv k] ∧ k ≤ l ∧ h.size ≤ h'.size ∧ I h.size k h', fun vs _ => (match vs with | [.int _ n] => l - n.toNat | _ => 0), ⟨0, rfl, by omega, Nat.le_refl _, hok.self⟩, ?_⟩
  rintro v7 g h9 ⟨k, e, hk, hs, hI⟩
  cases e
  simp only [asInt_int, asI_int]
  refine ifB_dec (fun hlt => ?_) (fun hge => ?_)
  · have hlt' : k < xs.length := by omega
    obtain ⟨ad, rfl, hc⟩ := SX.at c3c_len (by omega) (hok.env _ _ _ hN hs hI).2 hlt'
    refine ⟨by omega, hlt, ?_⟩
    simp only [asPtr_some, Int.toNat_natCast]
    refine ldH_mk (hc 0 _ rfl) (ldH_mk (hc 1 _ rfl) (ldH_mk (hc 2 _ rfl) ?_))
    have p1 := pushed h9 #[.int .i64 0, .int .u32 0, .int .u32 0] 42
    generalize h9.push (.cells #[.int .i64 0, .int .u32 0, .int .u32 0] 42) = h10 at *
    refine stKA (stN_full (vs := c3c xs[k]) p1.new rfl (c3_one _) fun h16 w => ?_)
    have o16 : Old h9.size h9 h16 := w.toOld p1.toOld (Nat.le_refl _)
    refine ldR w.new rfl (ldR w.new rfl (ldR w.new rfl ?_))
    have hI16 := hok.keepI _ _ h9 h16 hN hs hI (keep_of_old o16)
    have hyk := hy h.size k h16 hlt' hN (Nat.le_refl _) (Nat.le_trans hs o16.1) hI16
    rw [sqG_get c3c hlt'] at hyk
    refine callV_mono ?_ hyk
    rintro w' h'' ⟨hm, ⟨rfl, hI'⟩ | ⟨rfl, hX⟩⟩
    · simp only [asBool_bool, Bool.not_true, ifB_false]
      rw [nat_wrap1 (by omega)]
      refine ⟨⟨k + 1, rfl, by omega, Nat.le_trans hs (Nat.le_trans o16.1 hm.1), hI'⟩, ?_⟩
      show l - ((k + 1 : Nat) : Int).toNat < l - (k : Int).toNat
      omega
    · simp only [asBool_bool, Bool.not_false, ifB_true]
      exact ⟨h.size, hN, Nat.le_refl _, Nat.le_trans hs (Nat.le_trans o16.1 hm.1), .inr hX⟩
  · have : k = xs.length := by omega
    subst this
    exact ⟨h.size, hN, Nat.le_refl _, hs, .inl hI⟩
theorem ofA_call {K : Value → Heap → Prop} {h : Heap} {a : Option Addr} {l c : Nat} {xs : List C3} (H : SX c3c h a l c xs) (hl : l < 2 ^ 60) (k : ∀ g h', SeqG c3c g xs h' → Old h.size h h' → K g h') :
    CallH Try.prog 85 #[.slice a l c] h K := by
  refine call85 ?_
  unfold F85
  have o1 : Old h.size h (h.push (.cells #[.slice a l c] 63)) := (Old.refl _ _).push _ (Nat.le_refl _)
  exact k _ _ ⟨_, _, _, _, rfl, ofA_seq hl, ⟨cellAt_row (push_new _ _), H.old o1⟩, fun h1 h2 o e => ⟨cell_stable _ _ o e.1, e.2.old o⟩⟩ o1
theorem eachPA_seq {sp kp : Nat} {g t : Value} {L : List Pr} {p : Pr → C3} {Ev Ek : Heap → Prop} (hg : fnV g) (hseq : SeqH Try.prog g L.length (sqG prc L) Ev) (hst : ∀ h h', Old h.size h h' → Ev h → Ev h')
    (hsk : ∀ h h', Old h.size h h' → Ek h → Ek h') (hk : ∀ (h : Heap) (x : Pr) (K : Value → Heap → Prop), Ek h → (∀ h', Old h.size h h' → K (.agg (c3c (p x)).toArray) h') → callV Try.prog t #[.agg (prc x).toArray] h K) :
    SeqH Try.prog (.func (.func 117) #[] #[.pointer (some ⟨sp, 0, none⟩), .pointer (some ⟨kp, 0, none⟩)]) (L.map p).length (sqG c3c (L.map p))
      (fun h => cellAt h ⟨sp, 0, none⟩ = some g ∧ cellAt h ⟨kp, 0, none⟩ = some t ∧ Ev h ∧ Ek h) := by
  intro yf y1 y2 h N I X hN hev hok hy
  refine callV_cl ?_
  rw [cl3]
  refine call117 ?_
  unfold F117
  simp only [asPtr_some, oneC_func]
  have o1 : Old h.size h (h.push (.cells #[.func yf y1 y2] 91)) := (Old.refl _ _).push _ (Nat.le_refl _)
  have n1 := push_new h (.cells #[.func yf y1 y2] 91)
  have s1 : (h.push (.cells #[.func yf y1 y2] 91)).size = h.size + 1 := by simp
  generalize h.push (.cells #[.func yf y1 y2] 91) = h1 at *
  refine ldH_mk (cell_stable _ _ o1 hev.1) ?_
  refine rangeH_outer (h0 := h) (I := I) (X := X) (N := N) (n := L.length) (xs := sqG prc L) (Ev := Ev) (fun _ h' => h'[h.size]? = some (.cells #[.func yf y1 y2] 91)) (fun j => j) (L.map p).length False
    hg hseq (fun k _ => sqG_size prc L k) hN o1 hok (fun h' e => e.2.2.1) (hst _ _ o1 hev.2.2.1) rfl (by simp) (fun k ha hb hsame e => (hsame _ (Nat.le_refl _) (by omega)).trans e) n1 ?_ ?_ ?_
  · intro M j h4 hj hM hs hS hI
    rw [s1] at hM
    rw [show (sqG prc L j).getD 0 (.tuple #[]) = .agg (prc L[j]).toArray by rw [sqG_get prc hj]; rfl]
    simp only [asAgg_agg]
    refine sizeH_mk rfl (elemH_mk rfl (elemH_mk rfl ?_))
    simp only [oneC_int, oneC_bool]
    have hev4 := hok.env M _ h4 (by omega) hs hI
    have p5 := pushed h4 (prc L[j]).toArray 29
    rw [show h4.push (.cells #[.int .u32 (L[j]).1, .int .u32 (L[j]).2] 29) = h4.push (.cells (prc L[j]).toArray 29) from rfl]
    generalize h4.push (.cells (prc L[j]).toArray 29) = h5 at *
    have o5 := p5.toOld
    refine ldH_mk (cellAt_row ((o5.2 _ (by omega)).trans hS)) ?_
    refine ldH_mk (cell_stable _ _ o5 hev4.2.1) ?_
    refine ldR p5.new rfl (ldR p5.new rfl ?_)
    refine hk _ _ _ (hsk _ _ o5 hev4.2.2.2) fun h10 o10' => ?_
    have o10 : Old h4.size h4 h10 := o5.trans (o10'.mono o5.1)
    simp only [asAgg_agg]
    refine sizeH_mk rfl (elemH_mk rfl (elemH_mk rfl (elemH_mk rfl ?_)))
    have hI10 := hok.keepI M _ h4 h10 (by omega) hs hI (keep_of_old o10)
    have hS10 : h10[h.size]? = some (.cells #[.func yf y1 y2] 91) := (o10.2 _ (by omega)).trans hS
    refine ⟨cellAt_row hS10, ?_⟩
    have hyk := hy M j h10 (by simpa using hj) (by omega) (by omega) (by have := o10.1; omega) hI10
    rw [sqG_get c3c (by simpa using hj), List.getElem_map] at hyk
    refine callV_mono ?_ hyk
    rintro w h14 ⟨hm, hor⟩
    have hm4 : KeepMid h1.size M h4 h14 := (keepMid_of_old o10 hs).trans (hm.mono (by omega))
    rcases hor with ⟨rfl, hI'⟩ | ⟨rfl, hX⟩
    · simp only [asBool_bool, Bool.not_true, ifB_false]
      exact ⟨hm4, by have := hm4.1; omega, (hm.2 _ (by omega) (by omega)).trans hS10, hI'⟩
    · simp only [asBool_bool, Bool.not_false, ifB_true]
      exact ⟨hm4, trivial, .inl hX⟩
  · intro M h20 hM hs hI h21 hsd
    refine ⟨M, by omega, by omega, by rw [hsd.1]; exact hs, .inl ?_⟩
    exact hok.dI M _ h20 h21 (hsd.mono hN) hI
  · refine ⟨fun M h22 hM hs hX h23 hsd => ?_, trivial⟩
    refine ⟨M, by omega, by omega, by rw [hsd.1]; exact hs, .inr ?_⟩
    rcases hX with hX | hX
    · exact hok.dX M _ h22 h23 (hsd.mono hN) hX
    · exact hX.1.elim
theorem eachPA_call {K : Value → Heap → Prop} {h : Heap} {g t : Value} {L : List Pr} {p : Pr → C3} (H : SeqG prc g L h) (Hk : MapG prc c3c t p h) (k : ∀ g' h', SeqG c3c g' (L.map p) h' → Old h.size h h' → K g' h') :
    CallH Try.prog 102 #[g, t] h K := by
  obtain ⟨f0, fst, cap, Ev, rfl, hs, he, hst⟩ := H
  obtain ⟨⟨f1, a1, a2, rfl⟩, Ek, hk1, hk2, hk3⟩ := Hk
  refine call102 ?_
  unfold F102
  obtain ⟨ho, h1, h2⟩ := push2 (h := h) (.cells #[.func (.func f0) fst cap] 155) (.cells #[.func (.func f1) a1 a2] 157)
  simp only [oneC_func]
  rw [Array.size_push]
  generalize (h.push (.cells #[.func (.func f0) fst cap] 155)).push (.cells #[.func (.func f1) a1 a2] 157) = h5 at *
  refine ⟨fun vs h' => vs = [.bool false] ∧ h' = h5, ?_, ?_⟩
  · refine ldH_mk (cellAt_row h1) ?_
    simp only [asFnNil_func, ifB_false]
    refine ldH_mk (cellAt_row h2) ?_
    simp only [asFnNil_func]
    exact ⟨by trivial, by trivial⟩
  · rintro v5 g6 h7 ⟨e, rfl⟩
    cases e
    simp only [asBool_bool, ifB_false]
    exact k _ _ ⟨_, _, _, _, rfl, eachPA_seq (show fnV (.func (.func f0) fst cap) from trivial) hs hst hk2 hk3, ⟨cellAt_row h1, cellAt_row h2, hst _ _ ho he, hk2 _ _ ho hk1⟩,
      fun a b o e => ⟨cell_stable _ _ o e.1, cell_stable _ _ o e.2.1, hst _ _ o e.2.2.1, hk2 _ _ o e.2.2.2⟩⟩ ho
theorem listA_call {K : Value → Heap → Prop} {h : Heap} {g : Value} {L : List C3} (H : SeqG c3c g L h) (hn : L.length ≤ 2 ^ 39)
    (k : ∀ a c h', Own h' 42 3 a L.length c (L.flatMap c3c) → (∀ b, blk a b → h.size ≤ b) → Old h.size h h' → K (.slice a L.length c) h') : CallH Try.prog 101 #[g] h K := by
  obtain ⟨f0, fst, cap, Ev, rfl, hseq, hev0, hst⟩ := H
  have hev : ∀ h', Old h.size h h' → Ev h' := fun h' o => hst _ _ o hev0
  refine call101 ?_
  unfold F101
  simp only [asFnNil_func, ifB_false]
  have h1new : (h.push (.cells #[.slice none 0 0] 63))[h.size]? = some (.cells #[.slice none 0 0] 63) := push_new _ _
  have h1old : Old h.size h (h.push (.cells #[.slice none 0 0] 63)) := (Old.refl _ _).push _ (Nat.le_refl _)
  have h1s : (h.push (.cells #[.slice none 0 0] 63)).size = h.size + 1 := by simp
  obtain ⟨J, hJ⟩ : ∃ J : Nat → Heap → Prop, J = fun k h' => Old h.size h h' ∧ ∃ a c, h'[h.size]? = some (.cells #[.slice a k c] 63) ∧ Own h' 42 3 a k c ((L.take k).flatMap c3c) ∧ ∀ ad, a = some ad → h.size < ad.block := ⟨_, rfl⟩
  refine ⟨L.length, sqG c3c L, Ev, fun M k h' => J k h' ∧ ∃ a c, h'[h.size]? = some (.cells #[.slice a k c] 63) ∧ ∀ ad, a = some ad → M ≤ ad.block, fun _ _ _ => False, trivial, hseq, fun k _ => sqG_size c3c L k, hev _ h1old, ?_, ?_, ?_, trivial⟩
  · refine { env := fun M k h' hM hs hI => ?_, keepI := fun M k ha hb hM hs hI hk => ?_, keepX := fun _ _ _ _ _ _ x _ => x, dI := fun M k ha hb hs hI => ?_, dX := fun _ _ _ _ _ x => x, start := fun ha hs hsame => ?_ }
    · rw [hJ] at hI; exact hev _ hI.1.1
    · rw [hJ] at hI ⊢
      obtain ⟨⟨ho, a, c, hc, hown, hlt⟩, a', c', hc', hge⟩ := hI
      have e : a' = a ∧ c' = c := by rw [hc] at hc'; simp at hc'; exact ⟨hc'.1.symm, hc'.2.symm⟩
      obtain ⟨rfl, rfl⟩ := e
      rw [h1s] at hM hk
      have hv := hk.2 h.size (by have := ho.1; omega) (.inl (by omega))
      refine ⟨⟨⟨Nat.le_trans ho.1 hk.1, fun b hb => (hk.2 b (by have := ho.1; omega) (.inl (by omega))).trans (ho.2 b hb)⟩, a', c', hv.trans hc, ?_, hlt⟩, a', c', hv.trans hc, hge⟩
      exact hown.keep fun ad e => hk.2 _ (hown.lt ad e) (.inr (hge ad e))
    · rw [hJ] at hI ⊢
      rw [h1s] at hs
      obtain ⟨⟨ho, a, c, hc, hown, hlt⟩, a', c', hc', hge⟩ := hI
      have hv := hs.cells hc
      refine ⟨⟨ho.same (hs.mono (by omega)), a, c, hv.trans hc, hown.same hs, hlt⟩, a', c', hv.trans hc', hge⟩
    · rw [hJ]
      rw [h1s] at hs hsame
      have hv : ha[h.size]? = some (.cells #[.slice none 0 0] 63) := (hsame _ (by omega)).trans h1new
      refine ⟨⟨⟨by omega, fun b hb => (hsame b (by omega)).trans (push_old _ _ _ hb)⟩, none, 0, hv, Own.nil _ _ _, fun ad e => by cases e⟩, none, 0, hv, fun ad e => by cases e⟩
  · rintro M k h4 hj hM hs ⟨hjj, a', c', hc', hge⟩
    rw [h1s] at hM
    rw [hJ] at hjj
    obtain ⟨ho, a, c, hc, hown, hlt⟩ := hjj
    have e : a' = a ∧ c' = c := by rw [hc] at hc'; simp at hc'; exact ⟨hc'.1.symm, hc'.2.symm⟩
    obtain ⟨rfl, rfl⟩ := e
    rw [show (sqG c3c L k).getD 0 (.tuple #[]) = .agg (c3c L[k]).toArray by rw [sqG_get c3c hj]; rfl]
    simp only [asAgg_agg]
    refine sizeH_mk rfl (elemH_mk rfl (elemH_mk rfl (elemH_mk rfl ?_)))
    simp only [oneC_int, oneC_bool]
    have p5 := pushed h4 (c3c L[k]).toArray 42
    rw [show h4.push (.cells #[.int .i64 (L[k]).o, .int .u32 (L[k]).k, .int .u32 (L[k]).v] 42) = h4.push (.cells (c3c L[k]).toArray 42) from rfl]
    generalize h4.push (.cells (c3c L[k]).toArray 42) = h5 at *
    have o5 := p5.toOld
    have s5 := p5.size
    have hvlt : h.size < h4.size := (Array.getElem?_eq_some_iff.1 hc).1
    have hc5 := (o5.2 _ hvlt).trans hc
    refine ldH_mk (v := .slice a' k c') (by rw [cellAt_of hc5]; rfl) ?_
    simp only [asSlice_slice]
    refine ldR p5.new rfl (ldR p5.new rfl (ldR p5.new rfl ?_))
    have hown5 : Own h5 42 3 a' k c' ((L.take k).flatMap c3c) := hown.keep fun ad e => o5.2 _ (hown.lt ad e)
    refine app_a1 (ys := L.take k) (x := L[k]) hown5 (by omega) ?_
    intro a2 c2 h2 hown2 hor fr2
    have hv2 : h2[h.size]? = some (.cells #[.slice a' k c'] 63) := (fr2.2 _ (by omega) (fun ⟨ad, e, eb⟩ => by have := hlt ad e; omega)).trans hc5
    have hs2 := fr2.1
    have hge2 : ∀ ad, a2 = some ad → M ≤ ad.block := by
      intro ad e
      rcases hor _ ⟨ad, e, rfl⟩ with ⟨ad', e', eb⟩ | h3
      · rw [← eb]; exact hge ad' e'
      · omega
    simp only [asSlice_slice]
    refine stH_mk hv2 (by simp) trivial ?_
    rintro h3 rfl
    have hv3 : (h2.setIfInBounds h.size (.cells ((#[.slice a' k c'] : Array Value).setIfInBounds 0 (.slice a2 (k + 1) c2)) 63))[h.size]? = some (.cells #[.slice a2 (k + 1) c2] 63) := set_new (by omega)
    have hold4 : ∀ b, b < h.size → (h2.setIfInBounds h.size (.cells ((#[.slice a' k c'] : Array Value).setIfInBounds 0 (.slice a2 (k + 1) c2)) 63))[b]? = h4[b]? := fun b hb =>
      (set_old (by omega)).trans ((fr2.2 b (by omega) (fun ⟨ad, e, eb⟩ => by have := hlt ad e; omega)).trans (o5.2 b (by omega)))
    refine ⟨⟨by simp; omega, fun b hb1 hb2 => ?_⟩, ?_, a2, c2, hv3, hge2⟩
    · rw [h1s] at hb1
      refine (set_old (by omega)).trans ((fr2.2 b (by omega) (fun ⟨ad, e, eb⟩ => ?_)).trans (o5.2 b (by omega)))
      have := hge ad e; omega
    · rw [hJ]
      refine ⟨⟨by simp; have := ho.1; omega, fun b hb => (hold4 b hb).trans (ho.2 b hb)⟩, a2, c2, hv3, ?_, fun ad e => by have := hge2 ad e; omega⟩
      rw [List.take_succ_eq_append_getElem hj]
      exact hown2.keep fun ad e => set_old (by have := hge2 ad e; omega)
  · rintro M h16 hM hs ⟨hj, _⟩
    rw [hJ] at hj
    obtain ⟨ho, a, c, hc, hown, hlt⟩ := hj
    rw [List.take_length] at hown
    refine ldH_mk (v := .slice a L.length c) (by rw [cellAt_of hc]; rfl) ?_
    simp only [asSlice_slice]
    intro h21 hsd
    exact k a c h21 (hown.same hsd) (fun b ⟨ad, e, eb⟩ => by have := hlt ad e; omega) (ho.same hsd)
end Go.Proofs.Ytlncjcbofgjcfaa
end
section
/- Whether an order may be: the program's own way. -/
set_option linter.unusedSimpArgs false
set_option linter.unusedVariables false
set_option maxRecDepth 20000
namespace Go.Proofs.Ytlncjcbofgjcfaa

theorem nodup_take {order : List Int} (H : ∀ i (h : i < order.length), order[i] ∉ order.take i) : order.Nodup := by
  rw [List.nodup_iff_pairwise_ne, List.pairwise_iff_getElem]
  intro i j hi hj hij e
  exact H j hj (List.mem_take_iff_getElem.2 ⟨i, by omega, e⟩)
theorem take_of_nodup {order : List Int} (H : ∀ i (h : i < order.length), order.count order[i] ≤ 1) (i : Nat) (h : i < order.length) : order[i] ∉ order.take i := by
  intro hm
  have h1 : 0 < (order.take i).count order[i] := List.count_pos_iff.2 hm
  have h2 := H i h
  have e : order = order.take i ++ order[i] :: order.drop (i + 1) := by rw [← List.drop_eq_getElem_cons h, List.take_append_drop]
  have h3 : order.count order[i] = (order.take i ++ order[i] :: order.drop (i + 1)).count order[i] := congrArg (fun l => List.count order[i] l) e
  rw [List.count_append, List.count_cons_self] at h3
  omega

abbrev inRow (l : Nat) (xs : List Int) : List Value := (List.range l).map fun j : Nat => .bool (decide ((j : Int) ∈ xs))
theorem inRow_get {l : Nat} {xs : List Int} {x : Int} (h0 : 0 ≤ x) (h1 : x < l) : (inRow l xs)[x.toNat]? = some (.bool (decide (x ∈ xs))) := by
  have : x.toNat < l := by omega
  simp only [inRow, List.getElem?_map, List.getElem?_range this, Option.map_some]
  rw [show ((x.toNat : Nat) : Int) = x by omega]
theorem inRow_set {l : Nat} {xs : List Int} {x : Int} (h0 : 0 ≤ x) (h1 : x < l) : (inRow l xs).toArray.setIfInBounds x.toNat (.bool true) = (inRow l (xs ++ [x])).toArray := by
  rw [List.setIfInBounds_toArray]
  congr 1
  apply List.ext_getElem (by simp)
  intro i h2 h3
  simp only [List.length_set, List.length_map, List.length_range] at h2
  rw [List.getElem_set]
  simp only [List.getElem_map, List.getElem_range, List.mem_append, List.mem_singleton]
  split
  · rename_i e
    rw [decide_eq_true (by right; omega)]
  · rename_i e
    congr 1
    rw [decide_eq_decide]
    constructor
    · exact .inl
    · rintro (h | h)
      · exact h
      · omega
theorem inRow_nil (l : Nat) : ((List.replicate l [Value.bool false]).flatten) = inRow l [] := by
  rw [List.flatten_replicate_singleton]
  apply List.ext_getElem (by simp)
  intro i h1 h2
  simp
theorem inRow_size (l : Nat) (xs : List Int) : (inRow l xs).toArray.size = l := by simp

theorem byt_bool : byt Try.prog 4 = 1 := by kernel_rfl
theorem zcells_bool : zcells Try.prog 4 = [.bool false] := by kernel_rfl
theorem make_bool {K : Value → Heap → Prop} {h : Heap} {l : Nat} (hl : l ≤ 1000) (k : K (.slice (some ⟨h.size, 0, none⟩) l l) (h.push (.cells (inRow l []).toArray 4))) : mkSlH Try.prog 4 (l : Int) (l : Int) h K := by
  unfold mkSlH
  refine ⟨by omega, by omega, by omega, by rw [byt_bool]; omega, ?_⟩
  simp only [Int.toNat_natCast, zcells_bool, inRow_nil]
  exact k

/-- A slice of marks of one's own. -/
theorem mark_at {h : Heap} {b : Nat} {l : Nat} {xs : List Int} (hb : h[b]? = some (.cells (inRow l xs).toArray 4)) {x : Int} (h0 : 0 ≤ x) (h1 : x < l) : cellAt h ((⟨b, 0, none⟩ : Addr).add (x.toNat * 1)) = some (.bool (decide (x ∈ xs))) := by
  rw [add_lit, cellAt_of hb, List.getElem?_toArray, Nat.mul_one, Nat.zero_add]
  exact inRow_get h0 h1

theorem mark_at' {h : Heap} {b : Nat} {l : Nat} {xs : List Int} (hb : h[b]? = some (.cells (inRow l xs).toArray 4)) {x : Int} (h0 : 0 ≤ x) (h1 : x < l) : cellAt h ((⟨b, 0, none⟩ : Addr).add x.toNat) = some (.bool (decide (x ∈ xs))) := by
  have := mark_at hb h0 h1
  rwa [Nat.mul_one] at this
theorem count_list {K : Value → Heap → Prop} {h : Heap} {l : Nat} (hl : l ≤ 2 ^ 60) (k : ∀ g h', SeqL g ((List.range l).map fun k : Nat => (k : Int)) h' → Old h.size h h' → K g h') : CallH Try.prog 79 #[iv 0, iv l] h K :=
  count_call (by omega) (by omega) fun g h' hs o => k g h' (hs.toL (by simp) fun j hj => by
    have : j < l := by omega
    simp [List.getD_eq_getElem?_getD, this]) o

end Go.Proofs.Ytlncjcbofgjcfaa
end
section
/- The statement RealOrders' body. -/
set_option linter.unusedSimpArgs false
set_option linter.unusedVariables false
set_option maxRecDepth 20000
namespace Go.Proofs.Ytlncjcbofgjcfaa

/-- An operation's cells from an address on. -/
def OpAt9 (h : Heap) (ad : Addr) (o : Op9) : Prop := cellAt h ad = some (.int .i64 o.th) ∧ ∀ j v, o.cells[j]? = some v → cellAt h (ad.add j) = some v
theorem SlO.op {h : Heap} {a : Option Addr} {l c : Nat} {ops : List Op9} (H : SlO h a l c ops) {i : Nat} (hi : i < ops.length) : ∃ ad, a = some ad ∧ OpAt9 h (ad.add (i * 9)) ops[i] := H.at hi
theorem ld9 {h : Heap} {ad : Addr} {o : Op9} {K : Value → Value → Value → Value → Value → Value → Value → Value → Value → Prop} (H : OpAt9 h ad o)
    (k : K (.int .i64 o.th) (.int .i64 o.op) (.int .u32 o.key) (.int .u32 o.val) (.int .i64 o.kind) (.int .u32 o.ak) (.int .u32 o.av) (.int .i64 o.fr) (.int .i64 o.to)) :
    ldH h ad fun v0 => ldH h (ad.add 1) fun v1 => ldH h (ad.add 2) fun v2 => ldH h (ad.add 3) fun v3 => ldH h (ad.add 4) fun v4 => ldH h (ad.add 5) fun v5 => ldH h (ad.add 6) fun v6 => ldH h (ad.add 7) fun v7 => ldH h (ad.add 8) fun v8 => K v0 v1 v2 v3 v4 v5 v6 v7 v8 :=
  ldH_mk H.1 (ldH_mk (H.2 1 _ rfl) (ldH_mk (H.2 2 _ rfl) (ldH_mk (H.2 3 _ rfl) (ldH_mk (H.2 4 _ rfl) (ldH_mk (H.2 5 _ rfl) (ldH_mk (H.2 6 _ rfl) (ldH_mk (H.2 7 _ rfl) (ldH_mk (H.2 8 _ rfl) k))))))))
theorem eq9 {h : Heap} {ad : Addr} {o : Op9} {X : Prop} (H : OpAt9 h ad o) (x : X) :
    cellAt h ad = some (.int .i64 o.th) ∧ cellAt h (ad.add 1) = some (.int .i64 o.op) ∧ cellAt h (ad.add 2) = some (.int .u32 o.key) ∧ cellAt h (ad.add 3) = some (.int .u32 o.val) ∧ cellAt h (ad.add 4) = some (.int .i64 o.kind) ∧
    cellAt h (ad.add 5) = some (.int .u32 o.ak) ∧ cellAt h (ad.add 6) = some (.int .u32 o.av) ∧ cellAt h (ad.add 7) = some (.int .i64 o.fr) ∧ cellAt h (ad.add 8) = some (.int .i64 o.to) ∧ X :=
  ⟨H.1, H.2 1 _ rfl, H.2 2 _ rfl, H.2 3 _ rfl, H.2 4 _ rfl, H.2 5 _ rfl, H.2 6 _ rfl, H.2 7 _ rfl, H.2 8 _ rfl, x⟩

end Go.Proofs.Ytlncjcbofgjcfaa
end
section
/- What may come next. -/
set_option linter.unusedSimpArgs false
set_option linter.unusedVariables false
set_option maxRecDepth 20000
namespace Go.Proofs.Ytlncjcbofgjcfaa

/-! ### sequences that don't look at some blocks -/
def OldA (av : Nat → Prop) (h h' : Heap) : Prop := h.size ≤ h'.size ∧ ∀ b, b < h.size → ¬ av b → h'[b]? = h[b]?
theorem OldA.of {av : Nat → Prop} {h h' : Heap} (o : Old h.size h h') : OldA av h h' := ⟨o.1, fun b hb _ => o.2 b hb⟩
theorem OldA.cell {av : Nat → Prop} {h h' : Heap} {a : Addr} {v : Value} (o : OldA av h h') (ha : ¬ av a.block) (hc : cellAt h a = some v) : cellAt h' a = some v := (cellAt_congr (o.2 _ (cellAt_lt hc) ha)).trans hc
def SeqLA (av : Nat → Prop) (g : Value) (L : List Int) (h : Heap) : Prop :=
  ∃ f fst cap Ev, g = .func (.func f) fst cap ∧ SeqH Try.prog g L.length (seqOf L) Ev ∧ Ev h ∧ ∀ h h', OldA av h h' → Ev h → Ev h'
theorem SeqLA.old {av : Nat → Prop} {g : Value} {L : List Int} {h h' : Heap} (H : SeqLA av g L h) (o : Old h.size h h') : SeqLA av g L h' := by
  obtain ⟨f, fst, cap, Ev, e, hs, he, hst⟩ := H
  exact ⟨f, fst, cap, Ev, e, hs, hst _ _ (OldA.of o) he, hst⟩
def KeepOnA (av : Nat → Prop) (f : Value) (D : Int → Prop) (p : Int → Bool) (h : Heap) : Prop :=
  (∃ g x y, f = .func (.func g) x y) ∧ ∃ Ev : Heap → Prop, Ev h ∧ (∀ h h', OldA av h h' → Ev h → Ev h') ∧
    ∀ (h : Heap) (x : Int) (K : Value → Heap → Prop), Ev h → D x → (∀ h', Old h.size h h' → K (.bool (p x)) h') → callV Try.prog f #[.int .i64 x] h K
theorem KeepOnA.old {av : Nat → Prop} {f : Value} {D : Int → Prop} {p : Int → Bool} {h h' : Heap} (H : KeepOnA av f D p h) (o : OldA av h h') : KeepOnA av f D p h' := by
  obtain ⟨e, Ev, h1, h2, h3⟩ := H
  exact ⟨e, Ev, h2 _ _ o h1, h2, h3⟩
theorem KeepOnA.call {av : Nat → Prop} {f : Value} {D : Int → Prop} {p : Int → Bool} {h : Heap} (H : KeepOnA av f D p h) {x : Int} (hD : D x) {K : Value → Heap → Prop} (k : ∀ h', Old h.size h h' → K (.bool (p x)) h') : callV Try.prog f #[.int .i64 x] h K := by
  obtain ⟨_, Ev, h1, _, h3⟩ := H
  exact h3 _ _ _ h1 hD k
abbrev ints (l : Nat) : List Int := (List.range l).map fun k : Nat => (k : Int)
theorem mem_ints {l : Nat} {x : Int} : x ∈ ints l ↔ 0 ≤ x ∧ x < l := by
  simp only [ints, List.mem_map, List.mem_range]
  constructor
  · rintro ⟨k, hk, rfl⟩; omega
  · rintro ⟨h0, h1⟩; exact ⟨x.toNat, by omega, by omega⟩

theorem countA_call {K : Value → Heap → Prop} {h : Heap} {av : Nat → Prop} {l : Nat} (hl : l ≤ 2 ^ 60) (hav : ∀ b, av b → b < h.size) (k : ∀ g h', SeqLA av g (ints l) h' → Old h.size h h' → K g h') :
    CallH Try.prog 79 #[iv 0, iv l] h K := by
  refine call79 ?_
  unfold F79
  obtain ⟨ho, h1, h2⟩ := push2 (h := h) (.cells #[iv 0] 3) (.cells #[iv (l : Int)] 3)
  rw [Array.size_push]
  refine k _ _ ⟨_, _, _, fun h' => cellAt h' ⟨h.size, 0, none⟩ = some (iv 0) ∧ cellAt h' ⟨h.size + 1, 0, none⟩ = some (iv (l : Int)), rfl, ?_, ⟨cellAt_row h1, cellAt_row h2⟩, fun a b o e => ⟨o.cell (fun x => ?_) e.1, o.cell (fun x => ?_) e.2⟩⟩ ho
  · have := (count_seq (p := h.size) (q := h.size + 1) (u := 0) (v := l) (by omega) (by omega)).congr (ys := seqOf (ints l)) fun j hj => by
      have : j < l := by omega
      simp [seqOf, ints, List.getD_eq_getElem?_getD, this]
    rwa [show ((l : Int) - 0).toNat = (ints l).length by simp [ints]] at this
  · have := hav _ x; simp at this
  · have := hav _ x; simp at this; omega
theorem onlyA_call {K : Value → Heap → Prop} {h : Heap} {av : Nat → Prop} {g f : Value} {L : List Int} {D : Int → Prop} {p : Int → Bool} (H : SeqLA av g L h) (Hk : KeepOnA av f D p h) (hD : ∀ x ∈ L, D x) (hav : ∀ b, av b → b < h.size)
    (k : ∀ g' h', SeqLA av g' (L.filter p) h' → Old h.size h h' → K g' h') : CallH Try.prog 83 #[g, f] h K := by
  obtain ⟨f0, fst, cap, Ev, rfl, hs, he, hst⟩ := H
  obtain ⟨⟨f1, a1, a2, rfl⟩, Ek, hk1, hk2, hk3⟩ := Hk
  refine call83 ?_
  unfold F83
  obtain ⟨ho, h1, h2⟩ := push2 (h := h) (.cells #[.func (.func f0) fst cap] 133) (.cells #[.func (.func f1) a1 a2] 135)
  simp only [oneC_func]
  rw [Array.size_push]
  generalize (h.push (.cells #[.func (.func f0) fst cap] 133)).push (.cells #[.func (.func f1) a1 a2] 135) = h5 at *
  refine ⟨fun vs h' => vs = [.bool false] ∧ h' = h5, ?_, ?_⟩
  · refine ldH_mk (cellAt_row h1) ?_
    simp only [asFnNil_func, ifB_false]
    refine ldH_mk (cellAt_row h2) ?_
    simp only [asFnNil_func]
    exact ⟨by trivial, by trivial⟩
  · rintro v5 g6 h7 ⟨e, rfl⟩
    cases e
    simp only [asBool_bool, ifB_false]
    refine k _ _ ⟨_, _, _, _, rfl, only_seq hD (show fnV (.func (.func f0) fst cap) from trivial) hs (fun a b o e => hst _ _ (OldA.of o) e) (fun a b o e => hk2 _ _ (OldA.of o) e) hk3, ⟨cellAt_row h1, cellAt_row h2, hst _ _ (OldA.of ho) he, hk2 _ _ (OldA.of ho) hk1⟩,
      fun a b o e => ⟨o.cell (fun x => ?_) e.1, o.cell (fun x => ?_) e.2.1, hst _ _ o e.2.2.1, hk2 _ _ o e.2.2.2⟩⟩ ho
    · have := hav _ x; simp at this
    · have := hav _ x; simp at this; omega

theorem left_on {h : Heap} {av : Nat → Prop} {q b l : Nat} {taken : List Int} (hq : cellAt h ⟨q, 0, none⟩ = some (.slice (some ⟨b, 0, none⟩) l l)) (hb : h[b]? = some (.cells (inRow l taken).toArray 4)) (h1 : ¬ av q) (h2 : ¬ av b) :
    KeepOnA av (.func (.func 82) #[] #[.pointer (some ⟨q, 0, none⟩)]) (fun y => 0 ≤ y ∧ y < l) (fun y => !decide (y ∈ taken)) h := by
  refine ⟨⟨_, _, _, rfl⟩, fun h => cellAt h ⟨q, 0, none⟩ = some (.slice (some ⟨b, 0, none⟩) l l) ∧ h[b]? = some (.cells (inRow l taken).toArray 4), ⟨hq, hb⟩, fun h h' o e => ⟨o.cell h1 e.1, (o.2 _ (Array.getElem?_eq_some_iff.1 e.2).1 h2).trans e.2⟩, ?_⟩
  rintro h y K ⟨e1, e2⟩ ⟨y0, y1⟩ k
  refine callV_cl ?_
  rw [cl2]
  refine call82 ?_
  unfold F82
  simp only [asPtr_some]
  refine ldH_mk e1 ?_
  simp only [asSlice_slice, asPtr_some]
  refine ifB_dec (fun hq => by omega) (fun hq => ?_)
  refine ldH_mk e1 ?_
  simp only [asSlice_slice, asPtr_some]
  refine ⟨y0, y1, ldH_mk (mark_at e2 y0 y1) ?_⟩
  simp only [asBool_bool]
  exact k _ (Old.refl _ _)

def blocks (ops : List Op9) (taken : List Int) (x j : Int) : Bool := decide (j ≠ x) && (!decide (j ∈ taken) && ahead (opAt ops j) (opAt ops x))
def freeF (ops : List Op9) (taken : List Int) (l : Nat) (x : Int) : Bool := (ints l).all fun j => !blocks ops taken x j
def nextL (ops : List Op9) (taken : List Int) (l : Nat) : List Int := ((ints l).filter fun y => !decide (y ∈ taken)).filter (freeF ops taken l)
theorem mem_nextL {ops : List Op9} {taken : List Int} {l : Nat} {x : Int} : x ∈ nextL ops taken l ↔ (0 ≤ x ∧ x < l) ∧ x ∉ taken ∧ ∀ j : Int, 0 ≤ j → j < l → blocks ops taken x j = false := by
  unfold nextL freeF
  simp only [List.mem_filter, mem_ints, List.all_eq_true, Bool.not_eq_true', decide_eq_false_iff_not]
  constructor
  · rintro ⟨⟨h1, h2⟩, h3⟩; exact ⟨h1, h2, fun j a b => h3 j ⟨a, b⟩⟩
  · rintro ⟨h1, h2, h3⟩; exact ⟨⟨h1, h2⟩, fun j hj => h3 j hj.1 hj.2⟩

theorem next_call {K : Value → Heap → Prop} {h : Heap} {a : Option Addr} {l c b : Nat} {ops : List Op9} {taken : List Int} (H : SlO h a l c ops) (hl : l ≤ 1000) (hb : h[b]? = some (.cells (inRow l taken).toArray 4))
    (k : ∀ a' n' c' h', RI h' a' n' c' (nextL ops taken l) → (∀ ad, a' = some ad → h.size ≤ ad.block) → Old h.size h h' → K (.slice a' n' c') h') : CallH Try.prog 68 #[.slice a l c, .slice (some ⟨b, 0, none⟩) l l] h K := by
  refine call68 ?_
  unfold F68
  have hlen := H.len
  have hbl := (Array.getElem?_eq_some_iff.1 hb).1
  obtain ⟨o2, q1, q2⟩ := push2 (h := h) (.cells #[.slice a l c] 59) (.cells #[.slice (some ⟨b, 0, none⟩) l l] 89)
  have es1 : (h.push (.cells #[.slice a l c] 59)).size = h.size + 1 := by simp
  have es2 : ((h.push (.cells #[.slice a l c] 59)).push (.cells #[.slice (some ⟨b, 0, none⟩) l l] 89)).size = h.size + 2 := by simp
  rw [es2, es1]
  generalize (h.push (.cells #[.slice a l c] 59)).push (.cells #[.slice (some ⟨b, 0, none⟩) l l] 89) = h2 at *
  have p3 := pushed h2 #[.nilFunc] 135
  generalize h2.push (.cells #[.nilFunc] 135) = h3 at *
  have s3 := p3.size
  have n3 := p3.new
  rw [es2] at n3
  refine stR n3 rfl trivial fun h0 w0 => ?_
  have sz0 : h0.size = h.size + 3 := by rw [w0.size, s3, es2]
  have p4 := pushed h0 #[.slice none 0 0] 66
  generalize h0.push (.cells #[.slice none 0 0] 66) = h5 at *
  have s4 := p4.size
  have r1 : h5[h.size]? = some (.cells #[.slice a l c] 59) := (p4.old _ (by omega)).trans ((w0.old _ (by omega)).trans ((p3.old _ (by omega)).trans q1))
  have r2 : h5[h.size + 1]? = some (.cells #[.slice (some ⟨b, 0, none⟩) l l] 89) := (p4.old _ (by omega)).trans ((w0.old _ (by omega)).trans ((p3.old _ (by omega)).trans q2))
  have r3 : h5[h.size + 2]? = some (.cells #[.func (.func 82) #[] #[.pointer (some ⟨h.size + 1, 0, none⟩)]] 135) := (p4.old _ (by omega)).trans w0.new
  have r4 : h5[h.size + 3]? = some (.cells #[.slice none 0 0] 66) := by rw [← sz0]; exact p4.new
  have o5 : Old h.size h h5 := (w0.toOld (o2.trans (p3.toOld.mono (by omega))) (by omega)).trans (p4.toOld.mono (by omega))
  rw [sz0]
  refine ldR r1 rfl ?_
  simp only [asSlice_slice]
  refine ldR r3 rfl ?_
  have hbne : b ≠ h.size + 3 := by omega
  have hleft : ∀ h', OldA (fun x => x = h.size + 3) h5 h' → KeepOnA (fun x => x = h.size + 3) (.func (.func 82) #[] #[.pointer (some ⟨h.size + 1, 0, none⟩)]) (fun y => 0 ≤ y ∧ y < l) (fun y => !decide (y ∈ taken)) h' := fun h' o =>
    (left_on (cellAt_row r2) ((o5.2 _ hbl).trans hb) (by omega) hbne).old o
  refine callV_fn (countA_call (av := fun x => x = h.size + 3) (by omega) (fun x e => by omega) fun g6 h7 S7 o7 => ?_)
  refine ⟨cell_stable _ _ o7 (cellAt_row r3), ?_⟩
  refine callV_fn (onlyA_call S7 (hleft _ (OldA.of o7)) (fun x hx => mem_ints.1 hx) (fun x e => by have := o7.1; omega) fun g8 h9 S9 o9 => ?_)
  have o59 : Old h5.size h5 h9 := o7.trans (o9.mono o7.1)
  have hs9 : h.size + 4 ≤ h9.size := by have := o59.1; omega
  obtain ⟨f0, fst, cap, Ev, rfl, hs, he, hst⟩ := S9
  generalize hcand : (ints l).filter (fun y => !decide (y ∈ taken)) = cand at *
  have hcandlen : cand.length ≤ l := by rw [← hcand]; exact Nat.le_trans (List.length_filter_le _ _) (by simp [ints])
  have hcandmem : ∀ x ∈ cand, 0 ≤ x ∧ x < l := by
    intro x hx
    rw [← hcand] at hx
    exact mem_ints.1 (List.mem_filter.1 hx).1
  -- between two rounds
  refine rangeH_own (n := cand.length) (xs := seqOf cand) (Ev := Ev)
    (fun j w h' => OldA (fun x => x = h.size + 3) h9 h' ∧ ∃ a n c, h'[h.size + 3]? = some (.cells #[.slice a n c] 66) ∧ OwnI h' a n c ((cand.take j).filter (freeF ops taken l)) ∧ ∀ ad, a = some ad → w ad.block) (fun _ _ _ => False)
    (show fnV (.func (.func f0) fst cap) from trivial) hs (fun _ _ => rfl) ?_ (fun _ _ _ _ _ _ _ x => x) (fun j w' h' x => hst _ _ x.1 he) ⟨⟨Nat.le_refl _, fun _ _ _ => rfl⟩, none, 0, 0, (o59.2 _ (by omega)).trans r4, Own.nil _ _ _, fun ad e => by cases e⟩ ?_ ?_ trivial
  · rintro j w ha hb' hz1 hz2 hz3 ⟨x1, a1, n1, c1, x2, x3, x4⟩
    exact ⟨⟨Nat.le_trans x1.1 hz1, fun b hb hne => (hz2 b hb).trans (x1.2 b hb hne)⟩, a1, n1, c1, (hz2 _ (by omega)).trans x2, x3.keep fun ad e => hz3 _ (x4 ad e), x4⟩
  · rintro M j w h12 hj hM hMs hw ⟨x1, a1, n1, c1, x2, x3, x4⟩
    have e2 : (seqOf cand j).getD 0 (.tuple #[]) = .int .i64 cand[j] := by unfold seqOf; simp [hj]
    rw [e2]
    simp only [asInt_int]
    obtain ⟨c0, c1'⟩ := hcandmem _ (List.getElem_mem hj)
    have x1' : OldA (fun x => x = h.size + 3) h5 h12 := ⟨Nat.le_trans o59.1 x1.1, fun b hb hne => (x1.2 b (Nat.lt_of_lt_of_le hb o59.1) hne).trans (o59.2 b hb)⟩
    have o12 : Old h.size h h12 := ⟨Nat.le_trans o5.1 x1'.1, fun b hb => (x1'.2 b (by have := o5.1; omega) (by omega)).trans (o5.2 b hb)⟩
    have t1 : h12[h.size]? = some (.cells #[.slice a l c] 59) := (x1'.2 _ (by omega) (by omega)).trans r1
    have t3 : h12[h.size + 2]? = some (.cells #[.func (.func 82) #[] #[.pointer (some ⟨h.size + 1, 0, none⟩)]] 135) := (x1'.2 _ (by omega) (by omega)).trans r3
    have hn1 : n1 ≤ l := by
      have h1 := x3.1
      have h2 := List.length_filter_le (freeF ops taken l) (cand.take j)
      simp only [List.length_map, List.length_take, Nat.mul_one] at h1 h2
      omega
    have fsucc : ∀ (bb : Bool), freeF ops taken l cand[j] = bb → (cand.take (j + 1)).filter (freeF ops taken l) = (cand.take j).filter (freeF ops taken l) ++ (if bb then [cand[j]] else []) := by
      intro bb hbb
      rw [List.take_succ_eq_append_getElem hj, List.filter_append]
      cases bb <;> simp [hbb]
    refine ldR t1 rfl ?_
    simp only [asSlice_slice]
    refine ⟨fun vs h' => ∃ v, ∃ i : Nat, vs = [v, iv i] ∧ Old h12.size h12 h' ∧ i ≤ l ∧ ∀ i' : Nat, i' < i → blocks ops taken cand[j] i' = false, fun vs _ => (match vs with | [_, .int _ n] => l - n.toNat | _ => 0), ⟨_, 0, rfl, Old.refl _ _, Nat.zero_le _, fun i' h => by omega⟩, ?_⟩
    rintro v20 v21 g22 h23 ⟨v, i, e, o23, hi, hnb⟩
    cases e
    simp only [asInt_int]
    have u1 := (o23.2 h.size (by omega)).trans t1
    have u3 := (o23.2 (h.size + 2) (by omega)).trans t3
    have u4 := (o23.2 (h.size + 3) (by omega)).trans x2
    refine ifB_dec (fun hlt => ?_) (fun hge => ?_)
    · refine ⟨fun vs h' => ∃ v, vs = [v, .bool (blocks ops taken cand[j] i)] ∧ Old h12.size h12 h', ?_, ?_⟩
      · refine ifB_mk (fun hne => ?_) (fun heq => ?_)
        · have hne' : (i : Int) ≠ cand[j] := by simpa using hne
          refine ldR u3 rfl ?_
          have o23A : OldA (fun x => x = h.size + 3) h5 h23 := ⟨Nat.le_trans x1'.1 o23.1, fun b hb hne => (o23.2 b (Nat.lt_of_lt_of_le hb x1'.1)).trans (x1'.2 b hb hne)⟩
          refine (hleft _ o23A).call (x := (i : Int)) ⟨by omega, hlt⟩ fun h29 o29 => ?_
          have p29 := o23.trans (o29.mono o23.1)
          simp only [asBool_bool]
          unfold blocks
          rw [decide_eq_true hne', Bool.true_and]
          refine ifB_mk (fun hd => ?_) (fun hd => ?_)
          · rw [hd, Bool.true_and]
            have H29 := (H.old o12).old p29
            have w1 := (o29.2 h.size (by have := o23.1; omega)).trans u1
            obtain ⟨ad, rfl, oi⟩ := H29.op (i := i) (by omega)
            obtain ⟨ad', e', ox⟩ := H29.op (i := cand[j].toNat) (by omega)
            cases e'
            refine ldR w1 rfl ?_
            simp only [asSlice_slice, asPtr_some]
            refine ⟨by omega, by omega, ?_⟩
            simp only [Int.toNat_natCast]
            refine ld9 oi ?_
            refine ldR w1 rfl ?_
            simp only [asSlice_slice, asPtr_some]
            refine ⟨by omega, by omega, ld9 ox ?_⟩
            refine callV_fn (ahead_call ops[i] ops[cand[j].toNat] fun h60 o60 => ?_)
            simp only [asBool_bool]
            refine ⟨_, pairB ?_, p29.trans (o60.mono p29.1)⟩
            rw [opAt_nat (by omega), show opAt ops cand[j] = ops[cand[j].toNat] by simp [opAt, show cand[j].toNat < ops.length by omega]]
          · rw [hd, Bool.false_and]
            exact ⟨_, rfl, p29⟩
        · have heq' : (i : Int) = cand[j] := by simpa using heq
          refine ⟨_, pairB ?_, o23⟩
          unfold blocks
          rw [decide_eq_false (by simpa using heq'), Bool.false_and]
      · rintro v62 v63 g64 h65 ⟨v', e, o65⟩
        cases e
        simp only [asBool_bool]
        refine ifB_mk (fun hbl => ?_) (fun hbl => ?_)
        · -- one is ahead of it
          have hf : freeF ops taken l cand[j] = false := by
            unfold freeF
            rw [List.all_eq_false]
            exact ⟨(i : Int), mem_ints.2 ⟨by omega, hlt⟩, by rw [hbl]; simp⟩
          refine ⟨keepMid_of_old o65 hMs, by have := o65.1; have := x1.1; omega, w, owned_keep hw fun b hb => o65.2 b (hw.lt hb), ⟨Nat.le_trans x1.1 o65.1, fun b hb hne => (o65.2 b (Nat.lt_of_lt_of_le hb x1.1)).trans (x1.2 b hb hne)⟩, a1, n1, c1, (o65.2 _ (by omega)).trans x2, ?_, x4⟩
          rw [fsucc false hf]
          simp only [Bool.false_eq_true, if_false, List.append_nil]
          exact x3.keep fun ad e => o65.2 _ (x3.lt ad e)
        · rw [nat_wrap1 (by omega)]
          refine ⟨⟨_, i + 1, rfl, o65, by omega, fun i' hi' => ?_⟩, ?_⟩
          · by_cases e : i' < i
            · exact hnb i' e
            · obtain rfl : i' = i := by omega
              exact hbl
          · show l - ((i + 1 : Nat) : Int).toNat < l - (i : Int).toNat
            omega
    · have hf : freeF ops taken l cand[j] = true := by
        unfold freeF
        rw [List.all_eq_true]
        intro y hy
        obtain ⟨y0, y1⟩ := mem_ints.1 hy
        have := hnb y.toNat (by omega)
        rw [show ((y.toNat : Nat) : Int) = y by omega] at this
        rw [this]; rfl
      have x3' : OwnI h23 a1 n1 c1 ((cand.take j).filter (freeF ops taken l)) := x3.keep fun ad e => o23.2 _ (x3.lt ad e)
      refine ldR u4 rfl ?_
      simp only [asSlice_slice]
      refine app_int x3' (by omega) ?_
      intro a2 c2 h73 hown2 hs2 hold2 hor
      simp only [asSlice_slice]
      have hne1 : ∀ ad, a1 = some ad → M ≤ ad.block := fun ad e => (hw _ (x4 ad e)).1
      have v4 : h73[h.size + 3]? = some (.cells #[.slice a1 n1 c1] 66) := (hold2 _ (by have := o23.1; omega) (fun ad e => by have := hne1 ad e; omega)).trans u4
      refine stH_mk v4 (by simp) trivial ?_
      rintro h77 e77
      have hge2 : ∀ ad, a2 = some ad → M ≤ ad.block := by
        intro ad e
        rcases hor with rfl | ⟨bb, rfl, hbb⟩
        · exact hne1 ad e
        · cases e; show M ≤ bb; have := o23.1; omega
      have same77 : ∀ b, b < h12.size → b ≠ h.size + 3 → (∀ ad, a1 = some ad → ad.block ≠ b) → h77[b]? = h12[b]? := by
        intro b hb hne hna
        rw [e77, set_old hne]
        exact (hold2 b (Nat.lt_of_lt_of_le hb o23.1) hna).trans (o23.2 b hb)
      have sz77 : h12.size ≤ h77.size := by rw [e77]; simp; exact Nat.le_trans o23.1 hs2
      have own77 : OwnI h77 a2 (n1 + 1) c2 ((cand.take j).filter (freeF ops taken l) ++ [cand[j]]) := hown2.keep fun ad e => by rw [e77]; exact set_old (by have := hge2 ad e; omega)
      refine ⟨⟨sz77, fun b hb1 hb2 => same77 b (by omega) (by omega) (fun ad e => by have := hne1 ad e; omega)⟩, by have := x1.1; omega, fun b => ∃ ad, a2 = some ad ∧ ad.block = b, ?_, ⟨Nat.le_trans x1.1 sz77, fun b hb hne => (same77 b (Nat.lt_of_lt_of_le hb x1.1) hne (fun ad e => by have := hne1 ad e; omega)).trans (x1.2 b hb hne)⟩, a2, n1 + 1, c2, ?_, ?_, fun ad e => ⟨ad, e, rfl⟩⟩
      · rintro b ⟨ad, e, rfl⟩
        refine ⟨hge2 ad e, ?_⟩
        rcases own77.2.2 with ⟨e3, _⟩ | ⟨b3, row3, e3, hb3, _⟩
        · rw [e] at e3; cases e3
        · rw [e] at e3; cases e3; exact ⟨_, _, _, hb3⟩
      · rw [e77]; exact set_new (by have := o23.1; omega)
      · rw [fsucc true hf]; exact own77
  · rintro M w h78 hM hMs hw ⟨x1, a1, n1, c1, x2, x3, x4⟩
    refine ldR x2 rfl ?_
    simp only [asSlice_slice]
    intro h83 hsd
    rw [List.take_of_length_le (Nat.le_refl _)] at x3
    have x3' := OwnI.ri (Own.same x3 hsd)
    refine k _ _ _ _ ?_ (fun ad e => by have := (hw _ (x4 ad e)).1; omega) ?_
    · rw [← hcand] at x3'; exact x3'
    · have o78 : Old h.size h h78 := ⟨by have := x1.1; omega, fun b hb => (x1.2 b (by omega) (by omega)).trans ((o59.2 b (by have := o5.1; omega)).trans (o5.2 b hb))⟩
      exact o78.same hsd
end Go.Proofs.Ytlncjcbofgjcfaa
end
section
/- A search for an order: what there is to be found; how its states are told apart. -/
set_option linter.unusedSimpArgs false
set_option linter.unusedVariables false
set_option maxRecDepth 20000
namespace Go.Proofs.Ytlncjcbofgjcfaa

def opC (o : Op9) : C3 := ⟨o.op, o.key, o.val⟩
def opA (o : Op9) : C3 := ⟨o.kind, o.ak, o.av⟩
/-- What an operation may be answered, so that it does something. -/
def answersP (o : Op9) (ps : List Pr) : List C3 := if 0 ≤ o.to then [opA o] else if o.op = 0 then [⟨0, 0, 0⟩] else if o.op = 2 then [] else (minsP ps).map fun p => ⟨2, p.1, p.2⟩
/-- All that is answered is done. -/
def fullT (L : List Op9) (T : List Int) : Prop := ∀ y : Int, 0 ≤ y → y < L.length → 0 ≤ (opAt L y).to → y ∈ T
/-- From what is done, and from some pairs, these, one behind the other, are legal, till all that is answered is done. -/
inductive Can (L : List Op9) : List Int → List Pr → List Int → Prop
  | full {T : List Int} {ps : List Pr} (h : fullT L T) : Can L T ps []
  | step {T : List Int} {ps qs : List Pr} {x : Int} {a : C3} {w : List Int} (hx : x ∈ nextL L T L.length) (ha : a ∈ answersP (opAt L x) ps) (hd : doP ps (opC (opAt L x)) a = some qs) (h : Can L (T ++ [x]) qs w) : Can L T ps (x :: w)
theorem nextL_congr {L : List Op9} {T T' : List Int} (e : ∀ y, y ∈ T ↔ y ∈ T') (x : Int) : x ∈ nextL L T L.length ↔ x ∈ nextL L T' L.length := by
  rw [mem_nextL, mem_nextL]
  have hb : ∀ j, blocks L T x j = blocks L T' x j := fun j => by unfold blocks; rw [show decide (j ∈ T) = decide (j ∈ T') by rw [decide_eq_decide]; exact e j]
  simp only [hb, e x]
theorem Can.congr {L : List Op9} {T : List Int} {ps : List Pr} {w : List Int} (H : Can L T ps w) : ∀ {T' : List Int}, (∀ y, y ∈ T ↔ y ∈ T') → Can L T' ps w := by
  induction H with
  | full h => intro T' e; exact .full fun y a b c => (e y).1 (h y a b c)
  | step hx ha hd h ih =>
    intro T' e
    refine .step ((nextL_congr e _).1 hx) ha hd (ih fun y => ?_)
    simp only [List.mem_append, List.mem_singleton, e y]

/-! ### pairs as bytes -/
def InR (n : Int) : Prop := 0 ≤ n ∧ n < 4294967296
def InRs (ps : List Pr) : Prop := ∀ p ∈ ps, InR p.1 ∧ InR p.2
def by8 (n : Int) (i : Nat) : Int := (n / 2 ^ (8 * i)) % 256
def txP (p : Pr) : List Int := [by8 p.1 0, by8 p.2 0, by8 p.1 1, by8 p.2 1, by8 p.1 2, by8 p.2 2, by8 p.1 3, by8 p.2 3]
def txL (ps : List Pr) : List Int := ps.flatMap txP
theorem by8_range (n : Int) (i : Nat) : 0 ≤ by8 n i ∧ by8 n i < 256 := by unfold by8; omega
theorem by8_inj {n m : Int} (hn : InR n) (hm : InR m) (h0 : by8 n 0 = by8 m 0) (h1 : by8 n 1 = by8 m 1) (h2 : by8 n 2 = by8 m 2) (h3 : by8 n 3 = by8 m 3) : n = m := by
  unfold by8 at *
  unfold InR at *
  simp only [Nat.mul_zero, Nat.mul_one] at *
  have e1 : (2 : Int) ^ 0 = 1 := rfl
  have e2 : (2 : Int) ^ 8 = 256 := rfl
  have e3 : (2 : Int) ^ (8 * 2) = 65536 := rfl
  have e4 : (2 : Int) ^ (8 * 3) = 16777216 := rfl
  rw [e1] at h0; rw [e2] at h1; rw [e3] at h2; rw [e4] at h3
  omega
theorem txL_inj : ∀ {ps qs : List Pr}, InRs ps → InRs qs → txL ps = txL qs → ps = qs := by
  intro ps
  induction ps with
  | nil =>
    intro qs _ _ h
    cases qs with
    | nil => rfl
    | cons q qs => simp [txL, txP] at h
  | cons p ps ih =>
    intro qs hp hq h
    cases qs with
    | nil => simp [txL, txP] at h
    | cons q qs =>
      simp only [txL, List.flatMap_cons, txP, List.cons_append, List.nil_append, List.cons.injEq] at h
      obtain ⟨a0, b0, a1, b1, a2, b2, a3, b3, hr⟩ := h
      have h1 := by8_inj (hp p (by simp)).1 (hq q (by simp)).1 a0 a1 a2 a3
      have h2 := by8_inj (hp p (by simp)).2 (hq q (by simp)).2 b0 b1 b2 b3
      have h3 := ih (fun x hx => hp x (by simp [hx])) (fun x hx => hq x (by simp [hx])) hr
      rw [h3, Prod.ext h1 h2]
/-- Bytes as text. -/
def strL (l : List Int) : ByteArray := ⟨(l.map fun n => UInt8.ofNat n.toNat).toArray⟩
theorem strL_inj {l m : List Int} (hl : ∀ n ∈ l, 0 ≤ n ∧ n < 256) (hm : ∀ n ∈ m, 0 ≤ n ∧ n < 256) (h : strL l = strL m) : l = m := by
  have h2 : (l.map fun n => UInt8.ofNat n.toNat) = m.map fun n => UInt8.ofNat n.toNat := by
    have := congrArg (fun b : ByteArray => b.data.toList) h
    simpa [strL] using this
  clear h
  induction l generalizing m with
  | nil =>
    cases m with
    | nil => rfl
    | cons _ _ => simp at h2
  | cons x l ih =>
    cases m with
    | nil => simp at h2
    | cons y m =>
      simp only [List.map_cons, List.cons.injEq] at h2
      have e1 : x = y := by
        have := congrArg UInt8.toNat h2.1
        simp only [UInt8.toNat_ofNat'] at this
        have hx := hl x (by simp)
        have hy := hm y (by simp)
        rw [Nat.mod_eq_of_lt (by omega), Nat.mod_eq_of_lt (by omega)] at this
        omega
      rw [e1, ih (fun n hn => hl n (by simp [hn])) (fun n hn => hm n (by simp [hn])) h2.2]
theorem txL_range (ps : List Pr) : ∀ n ∈ txL ps, 0 ≤ n ∧ n < 256 := by
  intro n hn
  obtain ⟨p, _, hp⟩ := List.mem_flatMap.1 hn
  simp only [txP, List.mem_cons, List.not_mem_nil, or_false] at hp
  rcases hp with rfl | rfl | rfl | rfl | rfl | rfl | rfl | rfl <;> exact by8_range _ _
def txS (ps : List Pr) : ByteArray := strL (txL ps)
theorem txS_inj {ps qs : List Pr} (hp : InRs ps) (hq : InRs qs) (h : txS ps = txS qs) : ps = qs := txL_inj hp hq (strL_inj (txL_range _) (txL_range _) h)

/-! ### which ones are done, as a number -/
def maskN (T : List Int) : Nat → Nat
  | 0 => 0
  | i + 1 => maskN T i ||| (if (i : Int) ∈ T then 1 <<< i else 0)
theorem maskN_lt (T : List Int) : ∀ n, maskN T n < 2 ^ n := by
  intro n
  induction n with
  | zero => exact Nat.one_pos
  | succ n ih =>
    unfold maskN
    refine Nat.or_lt_two_pow ?_ ?_
    · rw [Nat.pow_succ]; omega
    · split
      · rw [Nat.one_shiftLeft, Nat.pow_succ]; have := Nat.two_pow_pos n; omega
      · exact Nat.two_pow_pos _
theorem maskN_test (T : List Int) {i : Nat} : ∀ {n : Nat}, i < n → (maskN T n).testBit i = decide ((i : Int) ∈ T) := by
  intro n
  induction n with
  | zero => intro h; omega
  | succ n ih =>
    intro h
    unfold maskN
    rw [Nat.testBit_or]
    by_cases e : i = n
    · subst e
      rw [Nat.testBit_lt_two_pow (maskN_lt T i), Bool.false_or]
      split
      · rename_i hin; rw [Nat.one_shiftLeft, Nat.testBit_two_pow_self, decide_eq_true hin]
      · rename_i hin; rw [Nat.zero_testBit, decide_eq_false hin]
    · rw [ih (by omega)]
      split
      · rw [Nat.one_shiftLeft, Nat.testBit_two_pow_of_ne (by omega), Bool.or_false]
      · rw [Nat.zero_testBit, Bool.or_false]
theorem maskN_inj {T T' : List Int} {n : Nat} (hT : ∀ y ∈ T, 0 ≤ y ∧ y < n) (hT' : ∀ y ∈ T', 0 ≤ y ∧ y < n) (h : maskN T n = maskN T' n) (y : Int) : y ∈ T ↔ y ∈ T' := by
  by_cases hy : 0 ≤ y ∧ y < n
  · obtain ⟨i, rfl⟩ : ∃ i : Nat, y = i := ⟨y.toNat, by omega⟩
    have hi : i < n := by omega
    have e := congrArg (fun m => m.testBit i) h
    simp only [maskN_test _ hi] at e
    rwa [decide_eq_decide] at e
  · exact ⟨fun h => absurd (hT y h) hy, fun h => absurd (hT' y h) hy⟩
/-- A state. -/
structure St where
  T : List Int
  ps : List Pr
def St.key (n : Nat) (s : St) : Int × ByteArray := ((maskN s.T n : Nat), txS s.ps)
structure St.ok (n : Nat) (s : St) : Prop where
  r : ∀ y ∈ s.T, 0 ≤ y ∧ y < n
  nd : s.T.Nodup
  inr : InRs s.ps
theorem St.key_inj {n : Nat} {s t : St} (hs : s.ok n) (ht : t.ok n) (h : s.key n = t.key n) : (∀ y, y ∈ s.T ↔ y ∈ t.T) ∧ s.ps = t.ps := by
  unfold St.key at h
  simp only [Prod.mk.injEq] at h
  exact ⟨maskN_inj hs.r ht.r (by omega), txS_inj hs.inr ht.inr h.2⟩
theorem doP_inr {ps qs : List Pr} {c a : C3} (hp : InRs ps) (hc : InR c.k ∧ InR c.v) (h : doP ps c a = some qs) : InRs qs := by
  unfold doP at h
  split at h
  · split at h
    · cases h
      intro x hx
      rcases List.mem_cons.1 ((insP_perm _ _).mem_iff.1 hx) with rfl | hx
      · exact hc
      · exact hp x hx
    · split at h
      · cases h; exact hp
      · split at h
        · split at h
          · cases h; exact hp
          · cases h
        · split at h
          · split at h
            · cases h; exact fun x hx => hp x (List.mem_of_mem_erase hx)
            · cases h; exact hp
          · cases h
  · cases h
theorem doP_srt {ps qs : List Pr} {c a : C3} (hS : Srt ps) (h : doP ps c a = some qs) : Srt qs := by
  unfold doP at h
  split at h
  · split at h
    · cases h; exact insP_srt hS
    · split at h
      · cases h; exact hS
      · split at h
        · split at h
          · cases h; exact hS
          · cases h
        · split at h
          · split at h
            · cases h; exact erase_srt hS _
            · cases h; exact hS
          · cases h
  · cases h

/-! ### what was met -/
theorem und_met : und Try.prog 94 = .map 115 4 := by kernel_rfl
theorem zer_b : zer Try.prog 4 = some (.bool false) := by kernel_rfl
theorem und_b : Try.prog.underlying 4 = some .bool := by kernel_rfl
end Go.Proofs.Ytlncjcbofgjcfaa
end
