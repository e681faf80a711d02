/- Part 10 of what the proofs of this seat rest on: see the last text of the claim. -/
import Derived.Test.YtglgifgoojncpaaGreatQ455ecd7d4ab8
import Derived.Test.YtglgifgoojncpaaGreatProg
set_option linter.unusedSimpArgs false
set_option linter.unusedVariables false
set_option linter.ambiguousOpen false
set_option maxRecDepth 20000
namespace Go.Proofs.YtglgifgoojncpaaGreat
section
set_option maxRecDepth 100000
def F27 (K : Value → Heap → Prop) (h : Heap) (xa xb : Option Addr) : Prop :=
  (cf 42 #[.pointer xb] h fun v0 h1 => asPtrO v0 fun o2 => exI fun I3 => (ifB (Option.isNone o2) (I3 [.bool true] h1) (I3 [.bool (Option.isNone xa)] h1)) ∧ (∀ (v4 : Value) (g5 : Env) (h6 : Heap), (I3 [v4] h6) → (asBool v4 fun b7 => ifB b7 (K (.tuple #[]) h6) (stH (Array.push h6 (.cells #[.pointer none, .pointer none, .pointer none] 112)) ⟨h6.size, 0, none⟩ (.pointer xa) fun h8 => stH h8 ⟨h6.size, 1, none⟩ (.pointer xb) fun h9 => stH h9 ⟨h6.size, 2, none⟩ (.pointer o2) fun h10 => exI fun I11 => (nP o2 fun a12 => lI .i64 h10 (Addr.add a12 1) fun n14 => ifB (n14 == 90) (nP o2 fun a15 => lI .i64 h10 a15 fun n17 => ifB (decide (n17 ≥ 11)) (nP o2 fun a18 => lI .i64 h10 a18 fun n20 => I11 [.bool (decide (n20 ≤ 13)), .bool (decide (n17 ≥ 11)), .bool (decide (n20 ≤ 13))] h10) (I11 [.bool false, .bool (decide (n17 ≥ 11)), .bool false] h10)) (I11 [.bool false, .bool false, .bool false] h10)) ∧ (∀ (v21 v22 v23 : Value) (g24 : Env) (h25 : Heap), (I11 [v21, v22, v23] h25) → (asBool v21 fun b26 => ifB b26 (nP o2 fun a27 => bd 7 10 (lI .u64 h25 (Addr.add a27 9) fun n29 => nP o2 fun a30 => bd 8 10 (lI .u64 h25 (Addr.add a30 10) fun n32 => nP o2 fun a33 => bd 9 10 (lI .u64 h25 (Addr.add a33 11) fun n35 => cf 44 #[.pointer xb, .slice (some ⟨h25.size, 0, none⟩) 3 3] (Array.push h25 (.cells #[.int .u64 n29, .int .u64 n32, .int .u64 n35] 65)) fun v36 h37 => K (.tuple #[]) h37)))) (nP o2 fun a38 => lI .i64 h25 a38 fun n40 => ifB (n40 == 10) (ldH h25 ⟨h6.size, 0, none⟩ fun v41 => ldH h25 ⟨h6.size, 1, none⟩ fun v42 => ldH h25 ⟨h6.size, 2, none⟩ fun v43 => cf 50 #[.agg #[v41, v42, v43]] h25 fun v44 h45 => K (.tuple #[]) h45) (nP o2 fun a46 => lI .i64 h25 a46 fun n48 => ifB (n48 == 11) (ldH h25 ⟨h6.size, 0, none⟩ fun v49 => ldH h25 ⟨h6.size, 1, none⟩ fun v50 => ldH h25 ⟨h6.size, 2, none⟩ fun v51 => cf 51 #[.agg #[v49, v50, v51]] h25 fun v52 h53 => K (.tuple #[]) h53) (exI fun I54 => (nP o2 fun a55 => lI .i64 h25 a55 fun n57 => ifB (n57 == 12) (I54 [.bool true, .bool true] h25) (nP o2 fun a58 => lI .i64 h25 a58 fun n60 => I54 [.bool (n60 == 13), .bool (n60 == 13)] h25)) ∧ (∀ (v61 v62 : Value) (g63 : Env) (h64 : Heap), (I54 [v61, v62] h64) → (asBool v61 fun b65 => ifB b65 (ldH h64 ⟨h6.size, 0, none⟩ fun v66 => ldH h64 ⟨h6.size, 1, none⟩ fun v67 => ldH h64 ⟨h6.size, 2, none⟩ fun v68 => cf 52 #[.agg #[v66, v67, v68]] h64 fun v69 h70 => K (.tuple #[]) h70) (nP o2 fun a71 => lI .i64 h64 a71 fun n73 => ifB (n73 == 14) (ldH h64 ⟨h6.size, 0, none⟩ fun v74 => ldH h64 ⟨h6.size, 1, none⟩ fun v75 => ldH h64 ⟨h6.size, 2, none⟩ fun v76 => cf 53 #[.agg #[v74, v75, v76]] h64 fun v77 h78 => K (.tuple #[]) h78) (cf 54 #[.pointer xa, .pointer xb] h64 fun v79 h80 => K (.tuple #[]) h80)))))))))))))
theorem call27 {K : Value → Heap → Prop} {h : Heap} {xa xb : Option Addr} (H : F27 K h xa xb) : CallH Tryz.prog 27 #[(.pointer xa), (.pointer xb)] h K :=
  callH_mk Tryz.func27 (by kernel_rfl) (Eq.mp (by kernel_rfl) H)
abbrev g50 (K : Value → Heap → Prop) (h H1 : Heap) : Prop :=
  (lP H1 ⟨h.size, 2, none⟩ fun o1 => nP o1 fun a2 => lI .i64 H1 (Addr.add a2 1) fun n4 => ifB (n4 == 0) (ldH H1 ⟨h.size, 0, none⟩ fun v5 => ldH H1 ⟨h.size, 1, none⟩ fun v6 => ldH H1 ⟨h.size, 2, none⟩ fun v7 => ldH H1 ⟨h.size, 0, none⟩ fun v8 => ldH H1 ⟨h.size, 1, none⟩ fun v9 => ldH H1 ⟨h.size, 2, none⟩ fun v10 => lP H1 ⟨h.size, 2, none⟩ fun o12 => nP o12 fun a13 => bd 0 10 (lI .u64 H1 (Addr.add a13 2) fun n15 => cf 83 #[.agg #[v8, v9, v10], .int .u64 n15] H1 fun v16 h17 => asInt .i64 v16 fun n18 => ce h17 h.size 0 v5 (ce h17 h.size 1 v6 (ce h17 h.size 2 v7 (((cellAt (Array.push h17 (.cells #[.int .u64 1, .int .u64 (IntKind.wrap .u64 n18)] 65)) ⟨h.size, 0, none⟩) = (some v5)) ∧ (((cellAt (Array.push h17 (.cells #[.int .u64 1, .int .u64 (IntKind.wrap .u64 n18)] 65)) ⟨h.size, 1, none⟩) = (some v6)) ∧ (((cellAt (Array.push h17 (.cells #[.int .u64 1, .int .u64 (IntKind.wrap .u64 n18)] 65)) ⟨h.size, 2, none⟩) = (some v7)) ∧ (cf 82 #[.agg #[v5, v6, v7], .int .i64 1, .int .i64 3, .slice (some ⟨h17.size, 0, none⟩) 2 2] (Array.push h17 (.cells #[.int .u64 1, .int .u64 (IntKind.wrap .u64 n18)] 65)) fun v19 h20 => K (.tuple #[]) h20)))))))) (lP H1 ⟨h.size, 1, none⟩ fun o22 => nP o22 fun a23 => bd 0 3 (lI .u64 H1 (Addr.add a23 2) fun n25 => cf 84 #[.int .u64 n25] H1 fun v26 h27 => asInt .i64 v26 fun n28 => ifB (n28 == 0) (lP h27 ⟨h.size, 1, none⟩ fun o30 => cf 44 #[.pointer o30, .slice (some ⟨h27.size, 0, none⟩) 2 2] (Array.push h27 (.cells #[.int .u64 n25, .int .u64 1099511627776] 65)) fun v31 h32 => K (.tuple #[]) h32) (ldH h27 ⟨h.size, 1, none⟩ fun v33 => asPtrO v33 fun o34 => ldH h27 ⟨h.size, 0, none⟩ fun v35 => asPtrO v35 fun o36 => ldH h27 ⟨h.size, 0, none⟩ fun v37 => ldH h27 ⟨h.size, 1, none⟩ fun v38 => ldH h27 ⟨h.size, 2, none⟩ fun v39 => cf 86 #[.agg #[v37, v38, v39], .int .u64 n25, .int .i64 0] h27 fun v40 h41 => asInt .i64 v40 fun n42 => ce h41 h.size 0 v35 (ce h41 h.size 1 v33 (cf 85 #[.pointer o36, .int .i64 n42] h41 fun v43 h44 => asInt .u64 v43 fun n45 => ce h44 h.size 1 v33 (((cellAt (Array.push h44 (.cells #[.int .u64 n25, .int .u64 n45] 65)) ⟨h.size, 1, none⟩) = (some v33)) ∧ (cf 44 #[.pointer o34, .slice (some ⟨h44.size, 0, none⟩) 2 2] (Array.push h44 (.cells #[.int .u64 n25, .int .u64 n45] 65)) fun v46 h47 => K (.tuple #[]) h47))))))))
def F50 (K : Value → Heap → Prop) (h : Heap) (xa xb xc : Option Addr) : Prop :=
  (g50 K h (Array.push h (.cells #[.pointer xa, .pointer xb, .pointer xc] 112)))
theorem call50 {K : Value → Heap → Prop} {h : Heap} {xa xb xc : Option Addr} (H : F50 K h xa xb xc) : CallH Tryz.prog 50 #[(.agg #[(.pointer xa), (.pointer xb), (.pointer xc)])] h K :=
  callH_mk Tryz.func50 (by kernel_rfl) (Eq.mp (by kernel_rfl) H)
abbrev g51 (K : Value → Heap → Prop) (h H1 : Heap) : Prop :=
  (lP H1 (Addr.add ⟨h.size, 0, none⟩ 2) fun o1 => nP o1 fun a2 => lI .i64 H1 (Addr.add a2 1) fun n4 => ifB (decide (n4 ≤ 3)) (ldH H1 ⟨h.size, 0, none⟩ fun v5 => ldH H1 ⟨h.size, 1, none⟩ fun v6 => ldH H1 ⟨h.size, 2, none⟩ fun v7 => cf 87 #[.agg #[v5, v6, v7]] H1 fun v8 h9 => K (.tuple #[]) h9) (lP H1 (Addr.add ⟨h.size, 0, none⟩ 2) fun o11 => nP o11 fun a12 => lI .i64 H1 (Addr.add a12 1) fun n14 => ifB (decide (n14 ≤ 7)) (ldH H1 ⟨h.size, 0, none⟩ fun v15 => ldH H1 ⟨h.size, 1, none⟩ fun v16 => ldH H1 ⟨h.size, 2, none⟩ fun v17 => cf 88 #[.agg #[v15, v16, v17]] H1 fun v18 h19 => K (.tuple #[]) h19) (lP H1 (Addr.add ⟨h.size, 0, none⟩ 2) fun o21 => nP o21 fun a22 => lI .i64 H1 (Addr.add a22 1) fun n24 => ifB (decide (n24 ≤ 9)) (ldH H1 ⟨h.size, 0, none⟩ fun v25 => ldH H1 ⟨h.size, 1, none⟩ fun v26 => ldH H1 ⟨h.size, 2, none⟩ fun v27 => cf 89 #[.agg #[v25, v26, v27]] H1 fun v28 h29 => K (.tuple #[]) h29) (ldH H1 ⟨h.size, 0, none⟩ fun v30 => ldH H1 ⟨h.size, 1, none⟩ fun v31 => ldH H1 ⟨h.size, 2, none⟩ fun v32 => cf 90 #[.agg #[v30, v31, v32]] H1 fun v33 h34 => K (.tuple #[]) h34))))
def F51 (K : Value → Heap → Prop) (h : Heap) (xa xb xc : Option Addr) : Prop :=
  (g51 K h (Array.push h (.cells #[.pointer xa, .pointer xb, .pointer xc] 114)))
theorem call51 {K : Value → Heap → Prop} {h : Heap} {xa xb xc : Option Addr} (H : F51 K h xa xb xc) : CallH Tryz.prog 51 #[(.agg #[(.pointer xa), (.pointer xb), (.pointer xc)])] h K :=
  callH_mk Tryz.func51 (by kernel_rfl) (Eq.mp (by kernel_rfl) H)
abbrev g52 (K : Value → Heap → Prop) (h H1 : Heap) : Prop :=
  (lP H1 (Addr.add ⟨h.size, 0, none⟩ 2) fun o1 => ldH H1 ⟨h.size, 0, none⟩ fun v2 => ldH H1 (Addr.add ⟨h.size, 0, none⟩ 1) fun v3 => ldH H1 (Addr.add ⟨h.size, 0, none⟩ 2) fun v4 => cf 91 #[.agg #[v2, v3, v4], .int .i64 0] H1 fun v5 h6 => asInt .u64 v5 fun n7 => nP o1 fun a8 => lI .i64 h6 (Addr.add a8 1) fun n10 => ifB (n10 == 4) (ldH h6 ⟨h.size, 0, none⟩ fun v11 => asPtrO v11 fun o12 => ldH h6 ⟨h.size, 0, none⟩ fun v13 => ldH h6 (Addr.add ⟨h.size, 0, none⟩ 1) fun v14 => ldH h6 (Addr.add ⟨h.size, 0, none⟩ 2) fun v15 => nP o1 fun a16 => cf 86 #[.agg #[v13, v14, v15], .int .u64 n7, .int .i64 2] h6 fun v17 h18 => asInt .i64 v17 fun n19 => ce h18 h.size 0 v11 (cf 85 #[.pointer o12, .int .i64 n19] h18 fun v20 h21 => asInt .u64 v20 fun n22 => bd 3 10 (stH h21 (Addr.add a16 5) (.int .u64 n22) fun h23 => nP o1 fun a24 => stH h23 (Addr.add a24 1) (.int .i64 5) fun h25 => K (.tuple #[]) h25))) (ifB (n10 == 5) (nP o1 fun a26 => stH h6 (Addr.add a26 1) (.int .i64 0) fun h27 => ldH h27 ⟨h.size, 0, none⟩ fun v28 => ldH h27 (Addr.add ⟨h.size, 0, none⟩ 1) fun v29 => ldH h27 (Addr.add ⟨h.size, 0, none⟩ 2) fun v30 => nP o1 fun a31 => bd 3 10 (lI .u64 h27 (Addr.add a31 5) fun n33 => cf 92 #[.agg #[v28, v29, v30], .int .u64 1, .int .u64 n7, .int .i64 (IntKind.wrap .i64 n33), .bool true] h27 fun v34 h35 => asBool v34 fun b36 => ifB b36 (ldH h35 ⟨h.size, 0, none⟩ fun v37 => ldH h35 (Addr.add ⟨h.size, 0, none⟩ 1) fun v38 => ldH h35 (Addr.add ⟨h.size, 0, none⟩ 2) fun v39 => cf 82 #[.agg #[v37, v38, v39], .int .i64 6, .int .i64 14, .slice (some ⟨h35.size, 0, none⟩) 1 1] (Array.push h35 (.cells #[.int .u64 1] 65)) fun v40 h41 => K (.tuple #[]) h41) (K (.tuple #[]) h35))) (ifB (n10 == 6) (ldH h6 ⟨h.size, 0, none⟩ fun v42 => ldH h6 (Addr.add ⟨h.size, 0, none⟩ 1) fun v43 => ldH h6 (Addr.add ⟨h.size, 0, none⟩ 2) fun v44 => cf 84 #[.int .u64 n7] h6 fun v45 h46 => asInt .i64 v45 fun n47 => ce h46 h.size 0 v42 (((cellAt h46 (Addr.add ⟨h.size, 0, none⟩ 1)) = (some v43)) ∧ (((cellAt h46 (Addr.add ⟨h.size, 0, none⟩ 2)) = (some v44)) ∧ (((cellAt (Array.push h46 (.cells #[.int .u64 (IntKind.wrap .u64 n47)] 65)) ⟨h.size, 0, none⟩) = (some v42)) ∧ (((cellAt (Array.push h46 (.cells #[.int .u64 (IntKind.wrap .u64 n47)] 65)) (Addr.add ⟨h.size, 0, none⟩ 1)) = (some v43)) ∧ (((cellAt (Array.push h46 (.cells #[.int .u64 (IntKind.wrap .u64 n47)] 65)) (Addr.add ⟨h.size, 0, none⟩ 2)) = (some v44)) ∧ (cf 82 #[.agg #[v42, v43, v44], .int .i64 7, .int .i64 5, .slice (some ⟨h46.size, 0, none⟩) 1 1] (Array.push h46 (.cells #[.int .u64 (IntKind.wrap .u64 n47)] 65)) fun v48 h49 => K (.tuple #[]) h49))))))) (ifB (n10 == 7) (ldH h6 ⟨h.size, 0, none⟩ fun v50 => ldH h6 (Addr.add ⟨h.size, 0, none⟩ 1) fun v51 => ldH h6 (Addr.add ⟨h.size, 0, none⟩ 2) fun v52 => nP o1 fun a53 => bd 1 10 (lI .u64 h6 (Addr.add a53 3) fun n55 => nP o1 fun a56 => bd 2 10 (lI .u64 h6 (Addr.add a56 4) fun n58 => cf 93 #[.agg #[v50, v51, v52], .int .u64 2, .int .u64 n55, .int .u64 n58] h6 fun v59 h60 => K (.tuple #[]) h60))) (ldH h6 ⟨h.size, 0, none⟩ fun v61 => ldH h6 ⟨h.size, 1, none⟩ fun v62 => ldH h6 ⟨h.size, 2, none⟩ fun v63 => cf 94 #[.agg #[v61, v62, v63]] h6 fun v64 h65 => K (.tuple #[]) h65)))))
def F52 (K : Value → Heap → Prop) (h : Heap) (xa xb xc : Option Addr) : Prop :=
  (g52 K h (Array.push h (.cells #[.pointer xa, .pointer xb, .pointer xc] 115)))
theorem call52 {K : Value → Heap → Prop} {h : Heap} {xa xb xc : Option Addr} (H : F52 K h xa xb xc) : CallH Tryz.prog 52 #[(.agg #[(.pointer xa), (.pointer xb), (.pointer xc)])] h K :=
  callH_mk Tryz.func52 (by kernel_rfl) (Eq.mp (by kernel_rfl) H)
abbrev g53 (K : Value → Heap → Prop) (h H1 : Heap) : Prop :=
  (lP H1 (Addr.add ⟨h.size, 0, none⟩ 2) fun o1 => nP o1 fun a2 => bd 0 10 (lI .u64 H1 (Addr.add a2 2) fun n4 => nP o1 fun a5 => lI .i64 H1 (Addr.add a5 1) fun n7 => ifB (n7 == 4) (ldH H1 ⟨h.size, 0, none⟩ fun v8 => ldH H1 (Addr.add ⟨h.size, 0, none⟩ 1) fun v9 => ldH H1 (Addr.add ⟨h.size, 0, none⟩ 2) fun v10 => cf 82 #[.agg #[v8, v9, v10], .int .i64 5, .int .i64 10, .slice (some ⟨H1.size, 0, none⟩) 1 1] (Array.push H1 (.cells #[.int .u64 (IntKind.wrap .u64 (2 * n4))] 65)) fun v11 h12 => K (.tuple #[]) h12) (ifB (n7 == 5) (ldH H1 ⟨h.size, 0, none⟩ fun v13 => ldH H1 ⟨h.size, 1, none⟩ fun v14 => ldH H1 ⟨h.size, 2, none⟩ fun v15 => cf 95 #[.agg #[v13, v14, v15], .int .i64 3, .int .i64 6, .int .u64 (IntKind.wrap .u64 (2 * n4))] H1 fun v16 h17 => exI fun I18 => (nP o1 fun a19 => lI .i64 h17 (Addr.add a19 1) fun n21 => ifB (n21 == 6) (lP h17 (Addr.add ⟨h.size, 0, none⟩ 1) fun o23 => cf 42 #[.pointer o23] h17 fun v24 h25 => asPtrO v24 fun o26 => ptrH Tryz.prog .eql 93 o26 o1 h25 fun v27 h28 => asBool v27 fun b29 => I18 [.bool b29] h28) (I18 [.bool false] h17)) ∧ (∀ (v30 : Value) (g31 : Env) (h32 : Heap), (I18 [v30] h32) → (asBool v30 fun b33 => ifB b33 (ldH h32 ⟨h.size, 0, none⟩ fun v34 => ldH h32 (Addr.add ⟨h.size, 0, none⟩ 1) fun v35 => ldH h32 (Addr.add ⟨h.size, 0, none⟩ 2) fun v36 => cf 82 #[.agg #[v34, v35, v36], .int .i64 6, .int .i64 10, .slice (some ⟨h32.size, 0, none⟩) 1 1] (Array.push h32 (.cells #[.int .u64 (IntKind.wrap .u64 ((IntKind.wrap .u64 (2 * n4)) + 1))] 65)) fun v37 h38 => K (.tuple #[]) h38) (K (.tuple #[]) h32)))) (ifB (n7 == 6) (ldH H1 ⟨h.size, 0, none⟩ fun v39 => ldH H1 ⟨h.size, 1, none⟩ fun v40 => ldH H1 ⟨h.size, 2, none⟩ fun v41 => cf 95 #[.agg #[v39, v40, v41], .int .i64 5, .int .i64 7, .int .u64 (IntKind.wrap .u64 ((IntKind.wrap .u64 (2 * n4)) + 1))] H1 fun v42 h43 => K (.tuple #[]) h43) (ifB (n7 == 7) (exI fun I44 => (nP o1 fun a45 => bd 4 10 (lI .u64 H1 (Addr.add a45 6) fun n47 => nP o1 fun a48 => bd 6 10 (lI .u64 H1 (Addr.add a48 8) fun n50 => ifB (decide (n47 ≤ n50)) (nP o1 fun a51 => bd 4 10 (lI .u64 H1 (Addr.add a51 6) fun n53 => nP o1 fun a54 => bd 2 10 (lI .u64 H1 (Addr.add a54 4) fun n56 => I44 [.bool (decide (n53 < n56)), .bool (decide (n53 < n56))] H1))) (I44 [.bool false, .bool false] H1)))) ∧ (∀ (v57 v58 : Value) (g59 : Env) (h60 : Heap), (I44 [v57, v58] h60) → (asBool v57 fun b61 => ifB b61 (ldH h60 ⟨h.size, 0, none⟩ fun v62 => ldH h60 ⟨h.size, 1, none⟩ fun v63 => ldH h60 ⟨h.size, 2, none⟩ fun v64 => cf 96 #[.agg #[v62, v63, v64], .int .i64 3, .int .u64 (IntKind.wrap .u64 (2 * n4))] h60 fun v65 h66 => K (.tuple #[]) h66) (exI fun I67 => (nP o1 fun a68 => bd 6 10 (lI .u64 h60 (Addr.add a68 8) fun n70 => nP o1 fun a71 => bd 4 10 (lI .u64 h60 (Addr.add a71 6) fun n73 => ifB (decide (n70 < n73)) (nP o1 fun a74 => bd 6 10 (lI .u64 h60 (Addr.add a74 8) fun n76 => nP o1 fun a77 => bd 2 10 (lI .u64 h60 (Addr.add a77 4) fun n79 => I67 [.bool (decide (n76 < n79)), .bool (decide (n76 < n79))] h60))) (I67 [.bool false, .bool false] h60)))) ∧ (∀ (v80 v81 : Value) (g82 : Env) (h83 : Heap), (I67 [v80, v81] h83) → (asBool v80 fun b84 => ifB b84 (ldH h83 ⟨h.size, 0, none⟩ fun v85 => ldH h83 ⟨h.size, 1, none⟩ fun v86 => ldH h83 ⟨h.size, 2, none⟩ fun v87 => cf 96 #[.agg #[v85, v86, v87], .int .i64 5, .int .u64 (IntKind.wrap .u64 ((IntKind.wrap .u64 (2 * n4)) + 1))] h83 fun v88 h89 => K (.tuple #[]) h89) (ldH h83 ⟨h.size, 0, none⟩ fun v90 => ldH h83 ⟨h.size, 1, none⟩ fun v91 => ldH h83 ⟨h.size, 2, none⟩ fun v92 => cf 97 #[.agg #[v90, v91, v92]] h83 fun v93 h94 => K (.tuple #[]) h94))))))) (ldH H1 ⟨h.size, 0, none⟩ fun v95 => ldH H1 ⟨h.size, 1, none⟩ fun v96 => ldH H1 ⟨h.size, 2, none⟩ fun v97 => cf 98 #[.agg #[v95, v96, v97]] H1 fun v98 h99 => K (.tuple #[]) h99))))))
def F53 (K : Value → Heap → Prop) (h : Heap) (xa xb xc : Option Addr) : Prop :=
  (g53 K h (Array.push h (.cells #[.pointer xa, .pointer xb, .pointer xc] 116)))
theorem call53 {K : Value → Heap → Prop} {h : Heap} {xa xb xc : Option Addr} (H : F53 K h xa xb xc) : CallH Tryz.prog 53 #[(.agg #[(.pointer xa), (.pointer xb), (.pointer xc)])] h K :=
  callH_mk Tryz.func53 (by kernel_rfl) (Eq.mp (by kernel_rfl) H)
abbrev g82 (K : Value → Heap → Prop) (h H1 : Heap) (xa xb : Int) (xc : Option Addr) (xd xe : Nat) : Prop :=
  (lP H1 ⟨h.size, 2, none⟩ fun o1 => nP o1 fun a2 => stH H1 (Addr.add a2 1) (.int .i64 xa) fun h3 => lP h3 ⟨h.size, 1, none⟩ fun o5 => cf 38 #[.pointer o5, .int .i64 xb, .slice xc xd xe] h3 fun v6 h7 => K (.tuple #[]) h7)
def F82 (K : Value → Heap → Prop) (h : Heap) (xa xb xc : Option Addr) (xd xe : Int) (xf : Option Addr) (xg xh : Nat) : Prop :=
  (g82 K h (Array.push h (.cells #[.pointer xa, .pointer xb, .pointer xc] 112)) xd xe xf xg xh)
theorem call82 {K : Value → Heap → Prop} {h : Heap} {xa xb xc : Option Addr} {xd xe : Int} {xf : Option Addr} {xg xh : Nat} (H : F82 K h xa xb xc xd xe xf xg xh) : CallH Tryz.prog 82 #[(.agg #[(.pointer xa), (.pointer xb), (.pointer xc)]), (.int .i64 xd), (.int .i64 xe), (.slice xf xg xh)] h K :=
  callH_mk Tryz.func82 (by kernel_rfl) (Eq.mp (by kernel_rfl) H)
abbrev g83 (K : Value → Heap → Prop) (h H1 : Heap) (xa : Int) : Prop :=
  (lP H1 ⟨h.size, 0, none⟩ fun o1 => cf 117 #[.pointer o1] H1 fun v2 h3 => asAgg v2 fun vs4 => sizeH vs4 15 (elemH vs4 0 fun v5 => elemH vs4 1 fun v6 => elemH vs4 2 fun v7 => elemH vs4 3 fun v8 => elemH vs4 4 fun v9 => elemH vs4 5 fun v10 => elemH vs4 6 fun v11 => elemH vs4 7 fun v12 => elemH vs4 8 fun v13 => elemH vs4 9 fun v14 => elemH vs4 10 fun v15 => elemH vs4 11 fun v16 => elemH vs4 12 fun v17 => elemH vs4 13 fun v18 => elemH vs4 14 fun v19 => cf 156 #[.agg #[v5, v6, v7, v8, v9, v10, v11, v12, v13, v14, v15, v16, v17, v18, v19], .int .i64 (IntKind.wrap .i64 xa)] h3 fun v20 h21 => asInt .i64 v20 fun n22 => K (.int .i64 n22) h21))
def F83 (K : Value → Heap → Prop) (h : Heap) (xa xb xc : Option Addr) (xd : Int) : Prop :=
  (g83 K h (Array.push h (.cells #[.pointer xa, .pointer xb, .pointer xc] 112)) xd)
theorem call83 {K : Value → Heap → Prop} {h : Heap} {xa xb xc : Option Addr} {xd : Int} (H : F83 K h xa xb xc xd) : CallH Tryz.prog 83 #[(.agg #[(.pointer xa), (.pointer xb), (.pointer xc)]), (.int .u64 xd)] h K :=
  callH_mk Tryz.func83 (by kernel_rfl) (Eq.mp (by kernel_rfl) H)
abbrev g86 (K : Value → Heap → Prop) (h H1 : Heap) (xa xb : Int) : Prop :=
  (lP H1 ⟨h.size, 0, none⟩ fun o1 => cf 117 #[.pointer o1] H1 fun v2 h3 => asAgg v2 fun vs4 => sizeH vs4 15 (elemH vs4 0 fun v5 => elemH vs4 1 fun v6 => elemH vs4 2 fun v7 => elemH vs4 3 fun v8 => elemH vs4 4 fun v9 => elemH vs4 5 fun v10 => elemH vs4 6 fun v11 => elemH vs4 7 fun v12 => elemH vs4 8 fun v13 => elemH vs4 9 fun v14 => elemH vs4 10 fun v15 => elemH vs4 11 fun v16 => elemH vs4 12 fun v17 => elemH vs4 13 fun v18 => elemH vs4 14 fun v19 => cf 84 #[.int .u64 xa] h3 fun v20 h21 => asInt .i64 v20 fun n22 => cf 66 #[.agg #[v5, v6, v7, v8, v9, v10, v11, v12, v13, v14, v15, v16, v17, v18, v19], .int .i64 n22, .int .i64 xb] h21 fun v23 h24 => asInt .i64 v23 fun n25 => K (.int .i64 n25) h24))
def F86 (K : Value → Heap → Prop) (h : Heap) (xa xb xc : Option Addr) (xd xe : Int) : Prop :=
  (g86 K h (Array.push h (.cells #[.pointer xa, .pointer xb, .pointer xc] 112)) xd xe)
theorem call86 {K : Value → Heap → Prop} {h : Heap} {xa xb xc : Option Addr} {xd xe : Int} (H : F86 K h xa xb xc xd xe) : CallH Tryz.prog 86 #[(.agg #[(.pointer xa), (.pointer xb), (.pointer xc)]), (.int .u64 xd), (.int .i64 xe)] h K :=
  callH_mk Tryz.func86 (by kernel_rfl) (Eq.mp (by kernel_rfl) H)
abbrev g87 (K : Value → Heap → Prop) (h H1 : Heap) : Prop :=
  (lP H1 (Addr.add ⟨h.size, 0, none⟩ 2) fun o1 => nP o1 fun a2 => lI .i64 H1 (Addr.add a2 1) fun n4 => ifB (n4 == 0) (ldH H1 ⟨h.size, 0, none⟩ fun v5 => ldH H1 (Addr.add ⟨h.size, 0, none⟩ 1) fun v6 => ldH H1 (Addr.add ⟨h.size, 0, none⟩ 2) fun v7 => cf 82 #[.agg #[v5, v6, v7], .int .i64 1, .int .i64 1, .slice none 0 0] H1 fun v8 h9 => K (.tuple #[]) h9) (ifB (n4 == 1) (lP H1 (Addr.add ⟨h.size, 0, none⟩ 1) fun o11 => nP o11 fun a12 => bd 0 3 (lI .u64 H1 (Addr.add a12 2) fun n14 => nP o1 fun a15 => bd 2 10 (stH H1 (Addr.add a15 4) (.int .u64 n14) fun h16 => nP o1 fun a17 => bd 2 10 (lI .u64 h16 (Addr.add a17 4) fun n19 => ifB (n19 != 0) (nP o1 fun a20 => stH h16 (Addr.add a20 1) (.int .i64 2) fun h21 => K (.tuple #[]) h21) (exI fun I22 => (nP o1 fun a23 => bd 3 10 (lI .u64 h16 (Addr.add a23 5) fun n25 => ifB (n25 == 0) (lP h16 (Addr.add ⟨h.size, 0, none⟩ 1) fun o27 => nP o27 fun a28 => cf 136 #[.pointer (some (Addr.add a28 8))] h16 fun v29 h30 => asInt .i64 v29 fun n31 => I22 [.bool (decide (n31 > 0)), .bool (decide (n31 > 0))] h30) (I22 [.bool false, .bool false] h16))) ∧ (∀ (v32 v33 : Value) (g34 : Env) (h35 : Heap), (I22 [v32, v33] h35) → (asBool v32 fun b36 => ifB b36 (nP o1 fun a37 => bd 3 10 (stH h35 (Addr.add a37 5) (.int .u64 1) fun h38 => ldH h38 ⟨h.size, 0, none⟩ fun v39 => ldH h38 (Addr.add ⟨h.size, 0, none⟩ 1) fun v40 => ldH h38 (Addr.add ⟨h.size, 0, none⟩ 2) fun v41 => cf 82 #[.agg #[v39, v40, v41], .int .i64 0, .int .i64 6, .slice none 0 0] h38 fun v42 h43 => K (.tuple #[]) h43)) (ldH h35 ⟨h.size, 0, none⟩ fun v44 => ldH h35 (Addr.add ⟨h.size, 0, none⟩ 1) fun v45 => ldH h35 (Addr.add ⟨h.size, 0, none⟩ 2) fun v46 => cf 93 #[.agg #[v44, v45, v46], .int .u64 1, .int .u64 0, .int .u64 0] h35 fun v47 h48 => K (.tuple #[]) h48)))))))) (ifB (n4 == 2) (ldH H1 ⟨h.size, 0, none⟩ fun v49 => asPtrO v49 fun o50 => lP H1 ⟨h.size, 0, none⟩ fun o52 => nP o1 fun a53 => bd 2 10 (ldH H1 (Addr.add a53 4) fun v54 => asInt .u64 v54 fun n55 => nP o1 fun a56 => bd 0 10 (ldH H1 (Addr.add a56 2) fun v57 => asInt .u64 v57 fun n58 => cf 117 #[.pointer o52] H1 fun v59 h60 => asAgg v59 fun vs61 => sizeH vs61 15 (elemH vs61 0 fun v62 => elemH vs61 1 fun v63 => elemH vs61 2 fun v64 => elemH vs61 3 fun v65 => elemH vs61 4 fun v66 => elemH vs61 5 fun v67 => elemH vs61 6 fun v68 => elemH vs61 7 fun v69 => elemH vs61 8 fun v70 => elemH vs61 9 fun v71 => elemH vs61 10 fun v72 => elemH vs61 11 fun v73 => elemH vs61 12 fun v74 => elemH vs61 13 fun v75 => elemH vs61 14 fun v76 => ((cellAt h60 (Addr.add a56 2)) = (some v57)) ∧ (((cellAt h60 (Addr.add a53 4)) = (some v54)) ∧ (ce h60 h.size 0 v49 (cf 66 #[.agg #[v62, v63, v64, v65, v66, v67, v68, v69, v70, v71, v72, v73, v74, v75, v76], .int .i64 (IntKind.wrap .i64 n55), .int .i64 0] h60 fun v77 h78 => asInt .i64 v77 fun n79 => ((cellAt h78 (Addr.add a56 2)) = (some v57)) ∧ (ce h78 h.size 0 v49 (cf 129 #[.pointer o50, .int .i64 n79, .int .u64 n58] h78 fun v80 h81 => nP o1 fun a82 => stH h81 (Addr.add a82 1) (.int .i64 3) fun h83 => K (.tuple #[]) h83))))))))) (ifB (n4 == 3) (ldH H1 ⟨h.size, 0, none⟩ fun v84 => asPtrO v84 fun o85 => lP H1 ⟨h.size, 0, none⟩ fun o87 => nP o1 fun a88 => bd 2 10 (ldH H1 (Addr.add a88 4) fun v89 => asInt .u64 v89 fun n90 => nP o1 fun a91 => bd 1 10 (ldH H1 (Addr.add a91 3) fun v92 => asInt .u64 v92 fun n93 => cf 117 #[.pointer o87] H1 fun v94 h95 => asAgg v94 fun vs96 => sizeH vs96 15 (elemH vs96 0 fun v97 => elemH vs96 1 fun v98 => elemH vs96 2 fun v99 => elemH vs96 3 fun v100 => elemH vs96 4 fun v101 => elemH vs96 5 fun v102 => elemH vs96 6 fun v103 => elemH vs96 7 fun v104 => elemH vs96 8 fun v105 => elemH vs96 9 fun v106 => elemH vs96 10 fun v107 => elemH vs96 11 fun v108 => elemH vs96 12 fun v109 => elemH vs96 13 fun v110 => elemH vs96 14 fun v111 => ((cellAt h95 (Addr.add a91 3)) = (some v92)) ∧ (((cellAt h95 (Addr.add a88 4)) = (some v89)) ∧ (ce h95 h.size 0 v84 (cf 66 #[.agg #[v97, v98, v99, v100, v101, v102, v103, v104, v105, v106, v107, v108, v109, v110, v111], .int .i64 (IntKind.wrap .i64 n90), .int .i64 1] h95 fun v112 h113 => asInt .i64 v112 fun n114 => ((cellAt h113 (Addr.add a91 3)) = (some v92)) ∧ (ce h113 h.size 0 v84 (cf 129 #[.pointer o85, .int .i64 n114, .int .u64 n93] h113 fun v115 h116 => nP o1 fun a117 => bd 3 10 (stH h116 (Addr.add a117 5) (.int .u64 0) fun h118 => nP o1 fun a119 => stH h118 (Addr.add a119 1) (.int .i64 4) fun h120 => K (.tuple #[]) h120)))))))))) (K (.tuple #[]) H1)))))
def F87 (K : Value → Heap → Prop) (h : Heap) (xa xb xc : Option Addr) : Prop :=
  (g87 K h (Array.push h (.cells #[.pointer xa, .pointer xb, .pointer xc] 114)))
theorem call87 {K : Value → Heap → Prop} {h : Heap} {xa xb xc : Option Addr} (H : F87 K h xa xb xc) : CallH Tryz.prog 87 #[(.agg #[(.pointer xa), (.pointer xb), (.pointer xc)])] h K :=
  callH_mk Tryz.func87 (by kernel_rfl) (Eq.mp (by kernel_rfl) H)
abbrev g88 (K : Value → Heap → Prop) (h H1 : Heap) : Prop :=
  (lP H1 (Addr.add ⟨h.size, 0, none⟩ 2) fun o1 => lP H1 ⟨h.size, 0, none⟩ fun o3 => cf 117 #[.pointer o3] H1 fun v4 h5 => asAgg v4 fun vs6 => sizeH vs6 15 (elemH vs6 0 fun v7 => elemH vs6 1 fun v8 => elemH vs6 2 fun v9 => elemH vs6 3 fun v10 => elemH vs6 4 fun v11 => elemH vs6 5 fun v12 => elemH vs6 6 fun v13 => elemH vs6 7 fun v14 => elemH vs6 8 fun v15 => elemH vs6 9 fun v16 => elemH vs6 10 fun v17 => elemH vs6 11 fun v18 => elemH vs6 12 fun v19 => elemH vs6 13 fun v20 => elemH vs6 14 fun v21 => cf 62 #[.agg #[v7, v8, v9, v10, v11, v12, v13, v14, v15, v16, v17, v18, v19, v20, v21]] h5 fun v22 h23 => asAgg v22 fun vs24 => sizeH vs24 7 (elemH vs24 0 fun v25 => elemH vs24 1 fun v26 => elemH vs24 2 fun v27 => elemH vs24 3 fun v28 => elemH vs24 4 fun v29 => elemH vs24 5 fun v30 => elemH vs24 6 fun v31 => stH (Array.push h23 (.cells #[.int .i64 0, .int .i64 0, .int .i64 0, .int .i64 0, .int .i64 0, .int .i64 0, .int .i64 0] 23)) ⟨h23.size, 0, none⟩ v25 fun h32 => stH h32 ⟨h23.size, 1, none⟩ v26 fun h33 => stH h33 ⟨h23.size, 2, none⟩ v27 fun h34 => stH h34 ⟨h23.size, 3, none⟩ v28 fun h35 => stH h35 ⟨h23.size, 4, none⟩ v29 fun h36 => stH h36 ⟨h23.size, 5, none⟩ v30 fun h37 => stH h37 ⟨h23.size, 6, none⟩ v31 fun h38 => nP o1 fun a39 => lI .i64 h38 (Addr.add a39 1) fun n41 => ifB (n41 == 4) (lP h38 ⟨h.size, 0, none⟩ fun o43 => nP o1 fun a44 => cf 85 #[.pointer o43, .int .i64 2] h38 fun v45 h46 => asInt .u64 v45 fun n47 => bd 4 10 (stH h46 (Addr.add a44 6) (.int .u64 n47) fun h48 => nP o1 fun a49 => bd 4 10 (lI .u64 h48 (Addr.add a49 6) fun n51 => lP h48 ⟨h.size, 0, none⟩ fun o53 => nP o1 fun a54 => cf 139 #[.pointer o53] h48 fun v55 h56 => asPtrO v55 fun o57 => cf 162 #[.int .i64 (IntKind.wrap .i64 n51)] h56 fun v58 h59 => asInt .i64 v58 fun n60 => cf 161 #[.pointer o57, .int .i64 n60] h59 fun v61 h62 => asInt .i64 v61 fun n63 => cf 160 #[.int .i64 (IntKind.wrap .i64 n51), .int .i64 n63] h62 fun v64 h65 => asInt .i64 v64 fun n66 => bd 5 10 (stH h65 (Addr.add a54 7) (.int .u64 (IntKind.wrap .u64 n66)) fun h67 => nP o1 fun a68 => stH h67 (Addr.add a68 1) (.int .i64 5) fun h69 => K (.tuple #[]) h69)))) (ifB (n41 == 5) (ldH h38 ⟨h.size, 0, none⟩ fun v70 => ldH h38 (Addr.add ⟨h.size, 0, none⟩ 1) fun v71 => ldH h38 (Addr.add ⟨h.size, 0, none⟩ 2) fun v72 => nP o1 fun a73 => bd 5 10 (lI .u64 h38 (Addr.add a73 7) fun n75 => ((cellAt (Array.push h38 (.cells #[.int .u64 n75] 65)) ⟨h.size, 0, none⟩) = (some v70)) ∧ (((cellAt (Array.push h38 (.cells #[.int .u64 n75] 65)) (Addr.add ⟨h.size, 0, none⟩ 1)) = (some v71)) ∧ (((cellAt (Array.push h38 (.cells #[.int .u64 n75] 65)) (Addr.add ⟨h.size, 0, none⟩ 2)) = (some v72)) ∧ (cf 82 #[.agg #[v70, v71, v72], .int .i64 6, .int .i64 10, .slice (some ⟨h38.size, 0, none⟩) 1 1] (Array.push h38 (.cells #[.int .u64 n75] 65)) fun v76 h77 => K (.tuple #[]) h77))))) (ifB (n41 == 6) (lP h38 (Addr.add ⟨h.size, 0, none⟩ 1) fun o79 => nP o79 fun a80 => bd 1 3 (lI .u64 h38 (Addr.add a80 3) fun n82 => nP o1 fun a83 => bd 0 10 (lI .u64 h38 (Addr.add a83 2) fun n85 => ifB (decide (n82 ≥ n85)) (ldH h38 ⟨h.size, 0, none⟩ fun v86 => ldH h38 ⟨h.size, 1, none⟩ fun v87 => ldH h38 ⟨h.size, 2, none⟩ fun v88 => nP o1 fun a89 => bd 4 10 (lI .u64 h38 (Addr.add a89 6) fun n91 => cf 164 #[.int .i64 (IntKind.wrap .i64 n91)] h38 fun v92 h93 => asAgg v92 fun vs94 => sizeH vs94 2 (elemH vs94 0 fun v95 => elemH vs94 1 fun v96 => ce h93 h.size 0 v86 (ce h93 h.size 1 v87 (ce h93 h.size 2 v88 (cf 163 #[.agg #[v86, v87, v88], .agg #[v95, v96]] h93 fun v97 h98 => nP o1 fun a99 => stH h98 (Addr.add a99 1) (.int .i64 8) fun h100 => K (.tuple #[]) h100)))))) (nP o1 fun a101 => bd 3 10 (lI .u64 h38 (Addr.add a101 5) fun n103 => nP o1 fun a104 => bd 3 10 (stH h38 (Addr.add a104 5) (.int .u64 (IntKind.wrap .u64 (n103 + 1))) fun h105 => nP o1 fun a106 => stH h105 (Addr.add a106 1) (.int .i64 4) fun h107 => nP o1 fun a108 => bd 3 10 (lI .u64 h107 (Addr.add a108 5) fun n110 => lI .i64 h107 ⟨h23.size, 5, none⟩ fun n112 => ifB (decide ((IntKind.wrap .i64 n110) ≥ n112)) (nP o1 fun a113 => stH h107 (Addr.add a113 1) (.int .i64 7) fun h114 => K (.tuple #[]) h114) (K (.tuple #[]) h107)))))))) (ifB (n41 == 7) (nP o1 fun a115 => bd 4 10 (lI .u64 h38 (Addr.add a115 6) fun n117 => lI .i64 h38 ⟨h23.size, 3, none⟩ fun n119 => ifB (decide ((IntKind.wrap .i64 n117) ≥ n119)) (ldH h38 ⟨h.size, 0, none⟩ fun v120 => ldH h38 (Addr.add ⟨h.size, 0, none⟩ 1) fun v121 => ldH h38 (Addr.add ⟨h.size, 0, none⟩ 2) fun v122 => cf 93 #[.agg #[v120, v121, v122], .int .u64 1, .int .u64 0, .int .u64 0] h38 fun v123 h124 => ldH h124 (Addr.add ⟨h.size, 0, none⟩ 1) fun v125 => asPtrO v125 fun o126 => nP o1 fun a127 => bd 2 10 (lI .u64 h124 (Addr.add a127 4) fun n129 => ((cellAt (Array.push h124 (.cells #[.int .u64 n129] 65)) (Addr.add ⟨h.size, 0, none⟩ 1)) = (some v125)) ∧ (cf 38 #[.pointer o126, .int .i64 5, .slice (some ⟨h124.size, 0, none⟩) 1 1] (Array.push h124 (.cells #[.int .u64 n129] 65)) fun v130 h131 => K (.tuple #[]) h131))) (lP h38 ⟨h.size, 0, none⟩ fun o133 => nP o1 fun a134 => bd 4 10 (lI .u64 h38 (Addr.add a134 6) fun n136 => nP o1 fun a137 => bd 4 10 (lI .u64 h38 (Addr.add a137 6) fun n139 => cf 152 #[.pointer o133, .int .i64 2, .int .u64 n136, .int .u64 (IntKind.wrap .u64 (n139 + 1))] h38 fun v140 h141 => asBool v140 fun b142 => nP o1 fun a143 => bd 3 10 (stH h141 (Addr.add a143 5) (.int .u64 0) fun h144 => nP o1 fun a145 => stH h144 (Addr.add a145 1) (.int .i64 4) fun h146 => K (.tuple #[]) h146)))))) (K (.tuple #[]) h38)))))))
def F88 (K : Value → Heap → Prop) (h : Heap) (xa xb xc : Option Addr) : Prop :=
  (g88 K h (Array.push h (.cells #[.pointer xa, .pointer xb, .pointer xc] 114)))
theorem call88 {K : Value → Heap → Prop} {h : Heap} {xa xb xc : Option Addr} (H : F88 K h xa xb xc) : CallH Tryz.prog 88 #[(.agg #[(.pointer xa), (.pointer xb), (.pointer xc)])] h K :=
  callH_mk Tryz.func88 (by kernel_rfl) (Eq.mp (by kernel_rfl) H)
abbrev g89 (K : Value → Heap → Prop) (h H1 : Heap) : Prop :=
  (ldH H1 ⟨h.size, 0, none⟩ fun v0 => ldH H1 ⟨h.size, 1, none⟩ fun v1 => ldH H1 ⟨h.size, 2, none⟩ fun v2 => cf 165 #[.agg #[v0, v1, v2]] H1 fun v3 h4 => asAgg v3 fun vs5 => sizeH vs5 2 (elemH vs5 0 fun v6 => elemH vs5 1 fun v7 => stH (Array.push h4 (.cells #[.int .i64 0, .int .i64 0] 193)) ⟨h4.size, 0, none⟩ v6 fun h8 => stH h8 ⟨h4.size, 1, none⟩ v7 fun h9 => lP h9 (Addr.add ⟨h.size, 0, none⟩ 2) fun o11 => nP o11 fun a12 => lI .i64 h9 (Addr.add a12 1) fun n14 => ifB (n14 == 8) (ldH h9 ⟨h4.size, 0, none⟩ fun v15 => ldH h9 ⟨h4.size, 1, none⟩ fun v16 => cf 166 #[.agg #[v15, v16]] h9 fun v17 h18 => asBool v17 fun b19 => ifB b19 (lP h18 (Addr.add ⟨h.size, 0, none⟩ 2) fun o21 => nP o21 fun a22 => stH h18 (Addr.add a22 1) (.int .i64 10) fun h23 => K (.tuple #[]) h23) (ldH h18 ⟨h.size, 0, none⟩ fun v24 => ldH h18 (Addr.add ⟨h.size, 0, none⟩ 1) fun v25 => ldH h18 (Addr.add ⟨h.size, 0, none⟩ 2) fun v26 => ldH h18 ⟨h.size, 0, none⟩ fun v27 => ldH h18 ⟨h.size, 1, none⟩ fun v28 => ldH h18 ⟨h.size, 2, none⟩ fun v29 => ldH h18 ⟨h4.size, 0, none⟩ fun v30 => ldH h18 ⟨h4.size, 1, none⟩ fun v31 => cf 168 #[.agg #[v30, v31]] h18 fun v32 h33 => asInt .i64 v32 fun n34 => ce h33 h.size 0 v27 (ce h33 h.size 1 v28 (ce h33 h.size 2 v29 (ce h33 h.size 0 v24 (((cellAt h33 (Addr.add ⟨h.size, 0, none⟩ 1)) = (some v25)) ∧ (((cellAt h33 (Addr.add ⟨h.size, 0, none⟩ 2)) = (some v26)) ∧ (cf 167 #[.agg #[v27, v28, v29], .int .i64 n34] h33 fun v35 h36 => asInt .u64 v35 fun n37 => ce h36 h.size 0 v24 (((cellAt h36 (Addr.add ⟨h.size, 0, none⟩ 1)) = (some v25)) ∧ (((cellAt h36 (Addr.add ⟨h.size, 0, none⟩ 2)) = (some v26)) ∧ (((cellAt (Array.push h36 (.cells #[.int .u64 n37] 65)) ⟨h.size, 0, none⟩) = (some v24)) ∧ (((cellAt (Array.push h36 (.cells #[.int .u64 n37] 65)) (Addr.add ⟨h.size, 0, none⟩ 1)) = (some v25)) ∧ (((cellAt (Array.push h36 (.cells #[.int .u64 n37] 65)) (Addr.add ⟨h.size, 0, none⟩ 2)) = (some v26)) ∧ (cf 82 #[.agg #[v24, v25, v26], .int .i64 9, .int .i64 10, .slice (some ⟨h36.size, 0, none⟩) 1 1] (Array.push h36 (.cells #[.int .u64 n37] 65)) fun v38 h39 => K (.tuple #[]) h39)))))))))))))) (ifB (n14 == 9) (ldH h9 ⟨h.size, 0, none⟩ fun v40 => ldH h9 ⟨h.size, 1, none⟩ fun v41 => ldH h9 ⟨h.size, 2, none⟩ fun v42 => ldH h9 ⟨h4.size, 0, none⟩ fun v43 => ldH h9 ⟨h4.size, 1, none⟩ fun v44 => lP h9 (Addr.add ⟨h.size, 0, none⟩ 1) fun o46 => nP o46 fun a47 => bd 1 3 (lI .u64 h9 (Addr.add a47 3) fun n49 => lP h9 (Addr.add ⟨h.size, 0, none⟩ 2) fun o51 => nP o51 fun a52 => bd 0 10 (lI .u64 h9 (Addr.add a52 2) fun n54 => cf 169 #[.agg #[v43, v44], .bool (decide (n49 ≥ n54))] h9 fun v55 h56 => asAgg v55 fun vs57 => sizeH vs57 2 (elemH vs57 0 fun v58 => elemH vs57 1 fun v59 => ce h56 h.size 0 v40 (ce h56 h.size 1 v41 (ce h56 h.size 2 v42 (cf 163 #[.agg #[v40, v41, v42], .agg #[v58, v59]] h56 fun v60 h61 => lP h61 (Addr.add ⟨h.size, 0, none⟩ 2) fun o63 => nP o63 fun a64 => stH h61 (Addr.add a64 1) (.int .i64 8) fun h65 => K (.tuple #[]) h65))))))) (K (.tuple #[]) h9))))
def F89 (K : Value → Heap → Prop) (h : Heap) (xa xb xc : Option Addr) : Prop :=
  (g89 K h (Array.push h (.cells #[.pointer xa, .pointer xb, .pointer xc] 114)))
theorem call89 {K : Value → Heap → Prop} {h : Heap} {xa xb xc : Option Addr} (H : F89 K h xa xb xc) : CallH Tryz.prog 89 #[(.agg #[(.pointer xa), (.pointer xb), (.pointer xc)])] h K :=
  callH_mk Tryz.func89 (by kernel_rfl) (Eq.mp (by kernel_rfl) H)
abbrev g90 (K : Value → Heap → Prop) (h H1 : Heap) : Prop :=
  (lP H1 (Addr.add ⟨h.size, 0, none⟩ 2) fun o1 => ldH H1 ⟨h.size, 0, none⟩ fun v2 => ldH H1 ⟨h.size, 1, none⟩ fun v3 => ldH H1 ⟨h.size, 2, none⟩ fun v4 => ldH H1 ⟨h.size, 0, none⟩ fun v5 => ldH H1 ⟨h.size, 1, none⟩ fun v6 => ldH H1 ⟨h.size, 2, none⟩ fun v7 => cf 165 #[.agg #[v5, v6, v7]] H1 fun v8 h9 => asAgg v8 fun vs10 => sizeH vs10 2 (elemH vs10 0 fun v11 => elemH vs10 1 fun v12 => ce h9 h.size 0 v2 (ce h9 h.size 1 v3 (ce h9 h.size 2 v4 (asInt .i64 v11 fun n13 => cf 167 #[.agg #[v2, v3, v4], .int .i64 n13] h9 fun v14 h15 => asInt .u64 v14 fun n16 => ldH h15 ⟨h.size, 0, none⟩ fun v17 => ldH h15 (Addr.add ⟨h.size, 0, none⟩ 1) fun v18 => ldH h15 (Addr.add ⟨h.size, 0, none⟩ 2) fun v19 => cf 91 #[.agg #[v17, v18, v19], .int .i64 3] h15 fun v20 h21 => asInt .u64 v20 fun n22 => nP o1 fun a23 => lI .i64 h21 (Addr.add a23 1) fun n25 => ifB (n25 == 10) (ldH h21 ⟨h.size, 0, none⟩ fun v26 => ldH h21 (Addr.add ⟨h.size, 0, none⟩ 1) fun v27 => ldH h21 (Addr.add ⟨h.size, 0, none⟩ 2) fun v28 => cf 82 #[.agg #[v26, v27, v28], .int .i64 11, .int .i64 10, .slice (some ⟨h21.size, 0, none⟩) 1 1] (Array.push h21 (.cells #[.int .u64 n16] 65)) fun v29 h30 => K (.tuple #[]) h30) (ifB (n25 == 11) (lP h21 (Addr.add ⟨h.size, 0, none⟩ 1) fun o32 => nP o32 fun a33 => bd 1 3 (lI .u64 h21 (Addr.add a33 3) fun n35 => nP o1 fun a36 => bd 0 10 (lI .u64 h21 (Addr.add a36 2) fun n38 => ifB (decide (n35 < n38)) (nP o1 fun a39 => bd 3 10 (stH h21 (Addr.add a39 5) (.int .u64 0) fun h40 => nP o1 fun a41 => stH h40 (Addr.add a41 1) (.int .i64 4) fun h42 => K (.tuple #[]) h42)) (lP h21 (Addr.add ⟨h.size, 0, none⟩ 1) fun o44 => nP o44 fun a45 => bd 0 3 (lI .u64 h21 (Addr.add a45 2) fun n47 => nP o1 fun a48 => bd 3 10 (stH h21 (Addr.add a48 5) (.int .u64 n47) fun h49 => ldH h49 ⟨h.size, 0, none⟩ fun v50 => asPtrO v50 fun o51 => lP h49 ⟨h.size, 0, none⟩ fun o53 => nP o1 fun a54 => bd 2 10 (ldH h49 (Addr.add a54 4) fun v55 => asInt .u64 v55 fun n56 => ldH h49 ⟨h.size, 0, none⟩ fun v57 => ldH h49 (Addr.add ⟨h.size, 0, none⟩ 1) fun v58 => ldH h49 (Addr.add ⟨h.size, 0, none⟩ 2) fun v59 => cf 117 #[.pointer o53] h49 fun v60 h61 => asAgg v60 fun vs62 => sizeH vs62 15 (elemH vs62 0 fun v63 => elemH vs62 1 fun v64 => elemH vs62 2 fun v65 => elemH vs62 3 fun v66 => elemH vs62 4 fun v67 => elemH vs62 5 fun v68 => elemH vs62 6 fun v69 => elemH vs62 7 fun v70 => elemH vs62 8 fun v71 => elemH vs62 9 fun v72 => elemH vs62 10 fun v73 => elemH vs62 11 fun v74 => elemH vs62 12 fun v75 => elemH vs62 13 fun v76 => elemH vs62 14 fun v77 => ce h61 h.size 0 v57 (((cellAt h61 (Addr.add ⟨h.size, 0, none⟩ 1)) = (some v58)) ∧ (((cellAt h61 (Addr.add ⟨h.size, 0, none⟩ 2)) = (some v59)) ∧ (((cellAt h61 (Addr.add a54 4)) = (some v55)) ∧ (ce h61 h.size 0 v50 (cf 66 #[.agg #[v63, v64, v65, v66, v67, v68, v69, v70, v71, v72, v73, v74, v75, v76, v77], .int .i64 (IntKind.wrap .i64 n56), .int .i64 2] h61 fun v78 h79 => asInt .i64 v78 fun n80 => ce h79 h.size 0 v57 (((cellAt h79 (Addr.add ⟨h.size, 0, none⟩ 1)) = (some v58)) ∧ (((cellAt h79 (Addr.add ⟨h.size, 0, none⟩ 2)) = (some v59)) ∧ (ce h79 h.size 0 v50 (cf 91 #[.agg #[v57, v58, v59], .int .i64 3] h79 fun v81 h82 => asInt .u64 v81 fun n83 => ce h82 h.size 0 v50 (cf 84 #[.int .u64 n83] h82 fun v84 h85 => asInt .i64 v84 fun n86 => ce h85 h.size 0 v50 (cf 129 #[.pointer o51, .int .i64 n80, .int .u64 (IntKind.wrap .u64 n86)] h85 fun v87 h88 => nP o1 fun a89 => stH h88 (Addr.add a89 1) (.int .i64 13) fun h90 => ifB (n16 == 1) (nP o1 fun a91 => stH h90 (Addr.add a91 1) (.int .i64 12) fun h92 => K (.tuple #[]) h92) (K (.tuple #[]) h90)))))))))))))))))))) (ifB (n25 == 12) (ldH h21 ⟨h.size, 0, none⟩ fun v93 => ldH h21 ⟨h.size, 1, none⟩ fun v94 => ldH h21 ⟨h.size, 2, none⟩ fun v95 => ldH h21 ⟨h.size, 0, none⟩ fun v96 => ldH h21 (Addr.add ⟨h.size, 0, none⟩ 1) fun v97 => ldH h21 (Addr.add ⟨h.size, 0, none⟩ 2) fun v98 => nP o1 fun a99 => bd 2 10 (ldH h21 (Addr.add a99 4) fun v100 => asInt .u64 v100 fun n101 => cf 171 #[.int .u64 n22] h21 fun v102 h103 => asBool v102 fun b104 => ((cellAt h103 (Addr.add a99 4)) = (some v100)) ∧ (ce h103 h.size 0 v96 (((cellAt h103 (Addr.add ⟨h.size, 0, none⟩ 1)) = (some v97)) ∧ (((cellAt h103 (Addr.add ⟨h.size, 0, none⟩ 2)) = (some v98)) ∧ (ce h103 h.size 0 v93 (ce h103 h.size 1 v94 (ce h103 h.size 2 v95 (cf 92 #[.agg #[v96, v97, v98], .int .u64 1, .int .u64 n22, .int .i64 (IntKind.wrap .i64 n101), .bool b104] h103 fun v105 h106 => asBool v105 fun b107 => ce h106 h.size 0 v93 (ce h106 h.size 1 v94 (ce h106 h.size 2 v95 (cf 170 #[.agg #[v93, v94, v95], .bool b107] h106 fun v108 h109 => K (.tuple #[]) h109)))))))))))) (ifB (n25 == 13) (ldH h21 ⟨h.size, 0, none⟩ fun v110 => ldH h21 (Addr.add ⟨h.size, 0, none⟩ 1) fun v111 => ldH h21 (Addr.add ⟨h.size, 0, none⟩ 2) fun v112 => ((2 : Int) ≠ 0) ∧ (cf 82 #[.agg #[v110, v111, v112], .int .i64 14, .int .i64 10, .slice (some ⟨h21.size, 0, none⟩) 1 1] (Array.push h21 (.cells #[.int .u64 (IntKind.wrap .u64 (Int.tdiv n16 2))] 65)) fun v113 h114 => K (.tuple #[]) h114)) (ifB (n25 == 14) (lP h21 (Addr.add ⟨h.size, 0, none⟩ 1) fun o116 => nP o116 fun a117 => bd 1 3 (lI .u64 h21 (Addr.add a117 3) fun n119 => nP o1 fun a120 => bd 0 10 (lI .u64 h21 (Addr.add a120 2) fun n122 => ifB (decide (n119 > n122)) (ldH h21 ⟨h.size, 0, none⟩ fun v123 => ldH h21 ⟨h.size, 1, none⟩ fun v124 => ldH h21 ⟨h.size, 2, none⟩ fun v125 => cf 170 #[.agg #[v123, v124, v125], .bool false] h21 fun v126 h127 => K (.tuple #[]) h127) (ldH h21 ⟨h.size, 0, none⟩ fun v128 => ldH h21 ⟨h.size, 1, none⟩ fun v129 => ldH h21 ⟨h.size, 2, none⟩ fun v130 => ldH h21 ⟨h.size, 0, none⟩ fun v131 => asPtrO v131 fun o132 => ldH h21 ⟨h.size, 0, none⟩ fun v133 => ldH h21 (Addr.add ⟨h.size, 0, none⟩ 1) fun v134 => ldH h21 (Addr.add ⟨h.size, 0, none⟩ 2) fun v135 => nP o1 fun a136 => bd 2 10 (ldH h21 (Addr.add a136 4) fun v137 => asInt .u64 v137 fun n138 => ldH h21 ⟨h.size, 0, none⟩ fun v139 => ldH h21 (Addr.add ⟨h.size, 0, none⟩ 1) fun v140 => ldH h21 (Addr.add ⟨h.size, 0, none⟩ 2) fun v141 => ((2 : Int) ≠ 0) ∧ (ldH h21 (Addr.add ⟨h.size, 0, none⟩ 1) fun v142 => asPtrO v142 fun o143 => nP o143 fun a144 => bd 0 3 (ldH h21 (Addr.add a144 2) fun v145 => asInt .u64 v145 fun n146 => cf 83 #[.agg #[v133, v134, v135], .int .u64 n16] h21 fun v147 h148 => asInt .i64 v147 fun n149 => ((cellAt h148 (Addr.add a144 2)) = (some v145)) ∧ (((cellAt h148 (Addr.add ⟨h.size, 0, none⟩ 1)) = (some v142)) ∧ (ce h148 h.size 0 v139 (((cellAt h148 (Addr.add ⟨h.size, 0, none⟩ 1)) = (some v140)) ∧ (((cellAt h148 (Addr.add ⟨h.size, 0, none⟩ 2)) = (some v141)) ∧ (((cellAt h148 (Addr.add a136 4)) = (some v137)) ∧ (ce h148 h.size 0 v131 (ce h148 h.size 0 v128 (ce h148 h.size 1 v129 (ce h148 h.size 2 v130 (cf 171 #[.int .u64 n22] h148 fun v150 h151 => asBool v150 fun b152 => ((cellAt h151 (Addr.add a144 2)) = (some v145)) ∧ (((cellAt h151 (Addr.add ⟨h.size, 0, none⟩ 1)) = (some v142)) ∧ (ce h151 h.size 0 v139 (((cellAt h151 (Addr.add ⟨h.size, 0, none⟩ 1)) = (some v140)) ∧ (((cellAt h151 (Addr.add ⟨h.size, 0, none⟩ 2)) = (some v141)) ∧ (((cellAt h151 (Addr.add a136 4)) = (some v137)) ∧ (ce h151 h.size 0 v131 (ce h151 h.size 0 v128 (ce h151 h.size 1 v129 (ce h151 h.size 2 v130 (cf 144 #[.int .u64 n22, .int .i64 (IntKind.wrap .i64 n138), .bool b152] h151 fun v153 h154 => asInt .u64 v153 fun n155 => ((cellAt h154 (Addr.add a144 2)) = (some v145)) ∧ (((cellAt h154 (Addr.add ⟨h.size, 0, none⟩ 1)) = (some v142)) ∧ (ce h154 h.size 0 v139 (((cellAt h154 (Addr.add ⟨h.size, 0, none⟩ 1)) = (some v140)) ∧ (((cellAt h154 (Addr.add ⟨h.size, 0, none⟩ 2)) = (some v141)) ∧ (ce h154 h.size 0 v131 (ce h154 h.size 0 v128 (ce h154 h.size 1 v129 (ce h154 h.size 2 v130 (cf 83 #[.agg #[v139, v140, v141], .int .u64 (IntKind.wrap .u64 (Int.tdiv n16 2))] h154 fun v156 h157 => asInt .i64 v156 fun n158 => ((cellAt h157 (Addr.add a144 2)) = (some v145)) ∧ (((cellAt h157 (Addr.add ⟨h.size, 0, none⟩ 1)) = (some v142)) ∧ (ce h157 h.size 0 v131 (ce h157 h.size 0 v128 (ce h157 h.size 1 v129 (ce h157 h.size 2 v130 (cf 172 #[.pointer o132, .int .i64 n149, .int .u64 n22, .int .u64 n155, .int .i64 n158, .int .u64 n146] h157 fun v159 h160 => asBool v159 fun b161 => ce h160 h.size 0 v128 (ce h160 h.size 1 v129 (ce h160 h.size 2 v130 (cf 170 #[.agg #[v128, v129, v130], .bool b161] h160 fun v162 h163 => K (.tuple #[]) h163))))))))))))))))))))))))))))))))))))))))))))) (K (.tuple #[]) h21))))))))))
def F90 (K : Value → Heap → Prop) (h : Heap) (xa xb xc : Option Addr) : Prop :=
  (g90 K h (Array.push h (.cells #[.pointer xa, .pointer xb, .pointer xc] 114)))
theorem call90 {K : Value → Heap → Prop} {h : Heap} {xa xb xc : Option Addr} (H : F90 K h xa xb xc) : CallH Tryz.prog 90 #[(.agg #[(.pointer xa), (.pointer xb), (.pointer xc)])] h K :=
  callH_mk Tryz.func90 (by kernel_rfl) (Eq.mp (by kernel_rfl) H)
abbrev g91 (K : Value → Heap → Prop) (h H1 : Heap) (xa : Int) : Prop :=
  (lP H1 ⟨h.size, 2, none⟩ fun o1 => nP o1 fun a2 => bd xa 10 (ldH H1 (Addr.add (Addr.add a2 2) (xa.toNat * 1)) fun v3 => asInt .u64 v3 fun n4 => K (.int .u64 n4) H1))
def F91 (K : Value → Heap → Prop) (h : Heap) (xa xb xc : Option Addr) (xd : Int) : Prop :=
  (g91 K h (Array.push h (.cells #[.pointer xa, .pointer xb, .pointer xc] 112)) xd)
theorem call91 {K : Value → Heap → Prop} {h : Heap} {xa xb xc : Option Addr} {xd : Int} (H : F91 K h xa xb xc xd) : CallH Tryz.prog 91 #[(.agg #[(.pointer xa), (.pointer xb), (.pointer xc)]), (.int .i64 xd)] h K :=
  callH_mk Tryz.func91 (by kernel_rfl) (Eq.mp (by kernel_rfl) H)
abbrev g92 (K : Value → Heap → Prop) (h H1 : Heap) (xa xb xc : Int) (xd : Bool) : Prop :=
  (ldH H1 ⟨h.size, 0, none⟩ fun v0 => asPtrO v0 fun o1 => ldH H1 ⟨h.size, 0, none⟩ fun v2 => ldH H1 ⟨h.size, 1, none⟩ fun v3 => ldH H1 ⟨h.size, 2, none⟩ fun v4 => cf 83 #[.agg #[v2, v3, v4], .int .u64 xa] H1 fun v5 h6 => asInt .i64 v5 fun n7 => ce h6 h.size 0 v0 (cf 144 #[.int .u64 xb, .int .i64 xc, .bool xd] h6 fun v8 h9 => asInt .u64 v8 fun n10 => ce h9 h.size 0 v0 (cf 152 #[.pointer o1, .int .i64 n7, .int .u64 xb, .int .u64 n10] h9 fun v11 h12 => asBool v11 fun b13 => K (.bool b13) h12)))
def F92 (K : Value → Heap → Prop) (h : Heap) (xa xb xc : Option Addr) (xd xe xf : Int) (xg : Bool) : Prop :=
  (g92 K h (Array.push h (.cells #[.pointer xa, .pointer xb, .pointer xc] 112)) xd xe xf xg)
theorem call92 {K : Value → Heap → Prop} {h : Heap} {xa xb xc : Option Addr} {xd xe xf : Int} {xg : Bool} (H : F92 K h xa xb xc xd xe xf xg) : CallH Tryz.prog 92 #[(.agg #[(.pointer xa), (.pointer xb), (.pointer xc)]), (.int .u64 xd), (.int .u64 xe), (.int .i64 xf), (.bool xg)] h K :=
  callH_mk Tryz.func92 (by kernel_rfl) (Eq.mp (by kernel_rfl) H)
abbrev g93 (K : Value → Heap → Prop) (h H1 : Heap) (xa xb xc : Int) : Prop :=
  (lP H1 ⟨h.size, 2, none⟩ fun o1 => ldH H1 ⟨h.size, 2, none⟩ fun v2 => asPtrO v2 fun o3 => ldH H1 ⟨h.size, 2, none⟩ fun v4 => asPtrO v4 fun o5 => nP o1 fun a6 => bd 7 10 (nP o3 fun a7 => nP o5 fun a8 => stH H1 (Addr.add a6 9) (.int .u64 xa) fun h9 => ce h9 h.size 2 v4 (ce h9 h.size 2 v2 (bd 8 10 (stH h9 (Addr.add a7 10) (.int .u64 xb) fun h10 => ce h10 h.size 2 v4 (bd 9 10 (stH h10 (Addr.add a8 11) (.int .u64 xc) fun h11 => ldH h11 ⟨h.size, 0, none⟩ fun v12 => ldH h11 ⟨h.size, 1, none⟩ fun v13 => ldH h11 ⟨h.size, 2, none⟩ fun v14 => cf 82 #[.agg #[v12, v13, v14], .int .i64 90, .int .i64 4, .slice none 0 0] h11 fun v15 h16 => K (.tuple #[]) h16)))))))
def F93 (K : Value → Heap → Prop) (h : Heap) (xa xb xc : Option Addr) (xd xe xf : Int) : Prop :=
  (g93 K h (Array.push h (.cells #[.pointer xa, .pointer xb, .pointer xc] 112)) xd xe xf)
theorem call93 {K : Value → Heap → Prop} {h : Heap} {xa xb xc : Option Addr} {xd xe xf : Int} (H : F93 K h xa xb xc xd xe xf) : CallH Tryz.prog 93 #[(.agg #[(.pointer xa), (.pointer xb), (.pointer xc)]), (.int .u64 xd), (.int .u64 xe), (.int .u64 xf)] h K :=
  callH_mk Tryz.func93 (by kernel_rfl) (Eq.mp (by kernel_rfl) H)
abbrev g94 (K : Value → Heap → Prop) (h H1 : Heap) : Prop :=
  (lP H1 (Addr.add ⟨h.size, 0, none⟩ 2) fun o1 => ldH H1 ⟨h.size, 0, none⟩ fun v2 => ldH H1 (Addr.add ⟨h.size, 0, none⟩ 1) fun v3 => ldH H1 (Addr.add ⟨h.size, 0, none⟩ 2) fun v4 => cf 91 #[.agg #[v2, v3, v4], .int .i64 0] H1 fun v5 h6 => asInt .u64 v5 fun n7 => nP o1 fun a8 => lI .i64 h6 (Addr.add a8 1) fun n10 => ifB (n10 == 0) (ldH h6 ⟨h.size, 0, none⟩ fun v11 => ldH h6 (Addr.add ⟨h.size, 0, none⟩ 1) fun v12 => ldH h6 (Addr.add ⟨h.size, 0, none⟩ 2) fun v13 => ldH h6 ⟨h.size, 0, none⟩ fun v14 => ldH h6 (Addr.add ⟨h.size, 0, none⟩ 1) fun v15 => ldH h6 (Addr.add ⟨h.size, 0, none⟩ 2) fun v16 => cf 83 #[.agg #[v14, v15, v16], .int .u64 1] h6 fun v17 h18 => asInt .i64 v17 fun n19 => ce h18 h.size 0 v11 (((cellAt h18 (Addr.add ⟨h.size, 0, none⟩ 1)) = (some v12)) ∧ (((cellAt h18 (Addr.add ⟨h.size, 0, none⟩ 2)) = (some v13)) ∧ (((cellAt (Array.push h18 (.cells #[.int .u64 0, .int .u64 (IntKind.wrap .u64 n19)] 65)) ⟨h.size, 0, none⟩) = (some v11)) ∧ (((cellAt (Array.push h18 (.cells #[.int .u64 0, .int .u64 (IntKind.wrap .u64 n19)] 65)) (Addr.add ⟨h.size, 0, none⟩ 1)) = (some v12)) ∧ (((cellAt (Array.push h18 (.cells #[.int .u64 0, .int .u64 (IntKind.wrap .u64 n19)] 65)) (Addr.add ⟨h.size, 0, none⟩ 2)) = (some v13)) ∧ (cf 82 #[.agg #[v11, v12, v13], .int .i64 1, .int .i64 3, .slice (some ⟨h18.size, 0, none⟩) 2 2] (Array.push h18 (.cells #[.int .u64 0, .int .u64 (IntKind.wrap .u64 n19)] 65)) fun v20 h21 => K (.tuple #[]) h21))))))) (ifB (n10 == 1) (lP h6 (Addr.add ⟨h.size, 0, none⟩ 1) fun o23 => nP o23 fun a24 => bd 0 3 (lI .u64 h6 (Addr.add a24 2) fun n26 => nP o1 fun a27 => bd 0 10 (stH h6 (Addr.add a27 2) (.int .u64 n26) fun h28 => nP o1 fun a29 => stH h28 (Addr.add a29 1) (.int .i64 2) fun h30 => ldH h30 ⟨h.size, 0, none⟩ fun v31 => ldH h30 (Addr.add ⟨h.size, 0, none⟩ 1) fun v32 => ldH h30 (Addr.add ⟨h.size, 0, none⟩ 2) fun v33 => cf 91 #[.agg #[v31, v32, v33], .int .i64 0] h30 fun v34 h35 => asInt .u64 v34 fun n36 => cf 171 #[.int .u64 n36] h35 fun v37 h38 => asBool v37 fun b39 => ifB b39 (ldH h38 ⟨h.size, 0, none⟩ fun v40 => ldH h38 (Addr.add ⟨h.size, 0, none⟩ 1) fun v41 => ldH h38 (Addr.add ⟨h.size, 0, none⟩ 2) fun v42 => cf 82 #[.agg #[v40, v41, v42], .int .i64 0, .int .i64 14, .slice (some ⟨h38.size, 0, none⟩) 1 1] (Array.push h38 (.cells #[.int .u64 1] 65)) fun v43 h44 => K (.tuple #[]) h44) (ldH h38 ⟨h.size, 0, none⟩ fun v45 => ldH h38 (Addr.add ⟨h.size, 0, none⟩ 1) fun v46 => ldH h38 (Addr.add ⟨h.size, 0, none⟩ 2) fun v47 => cf 91 #[.agg #[v45, v46, v47], .int .i64 0] h38 fun v48 h49 => asInt .u64 v48 fun n50 => cf 84 #[.int .u64 n50] h49 fun v51 h52 => asInt .i64 v51 fun n53 => ifB (n53 == 0) (ldH h52 ⟨h.size, 0, none⟩ fun v54 => ldH h52 (Addr.add ⟨h.size, 0, none⟩ 1) fun v55 => ldH h52 (Addr.add ⟨h.size, 0, none⟩ 2) fun v56 => cf 93 #[.agg #[v54, v55, v56], .int .u64 3, .int .u64 0, .int .u64 0] h52 fun v57 h58 => K (.tuple #[]) h58) (K (.tuple #[]) h52))))) (ifB (n10 == 2) (ldH h6 ⟨h.size, 0, none⟩ fun v59 => asPtrO v59 fun o60 => ldH h6 ⟨h.size, 0, none⟩ fun v61 => ldH h6 (Addr.add ⟨h.size, 0, none⟩ 1) fun v62 => ldH h6 (Addr.add ⟨h.size, 0, none⟩ 2) fun v63 => nP o1 fun a64 => cf 86 #[.agg #[v61, v62, v63], .int .u64 n7, .int .i64 0] h6 fun v65 h66 => asInt .i64 v65 fun n67 => ce h66 h.size 0 v59 (cf 85 #[.pointer o60, .int .i64 n67] h66 fun v68 h69 => asInt .u64 v68 fun n70 => bd 1 10 (stH h69 (Addr.add a64 3) (.int .u64 n70) fun h71 => nP o1 fun a72 => stH h71 (Addr.add a72 1) (.int .i64 3) fun h73 => K (.tuple #[]) h73))) (ifB (n10 == 3) (ldH h6 ⟨h.size, 0, none⟩ fun v74 => asPtrO v74 fun o75 => ldH h6 ⟨h.size, 0, none⟩ fun v76 => ldH h6 (Addr.add ⟨h.size, 0, none⟩ 1) fun v77 => ldH h6 (Addr.add ⟨h.size, 0, none⟩ 2) fun v78 => nP o1 fun a79 => cf 86 #[.agg #[v76, v77, v78], .int .u64 n7, .int .i64 1] h6 fun v80 h81 => asInt .i64 v80 fun n82 => ce h81 h.size 0 v74 (cf 85 #[.pointer o75, .int .i64 n82] h81 fun v83 h84 => asInt .u64 v83 fun n85 => bd 2 10 (stH h84 (Addr.add a79 4) (.int .u64 n85) fun h86 => nP o1 fun a87 => stH h86 (Addr.add a87 1) (.int .i64 4) fun h88 => nP o1 fun a89 => lI .i64 h88 a89 fun n91 => ifB (n91 == 13) (ldH h88 ⟨h.size, 0, none⟩ fun v92 => ldH h88 (Addr.add ⟨h.size, 0, none⟩ 1) fun v93 => ldH h88 (Addr.add ⟨h.size, 0, none⟩ 2) fun v94 => nP o1 fun a95 => bd 1 10 (lI .u64 h88 (Addr.add a95 3) fun n97 => nP o1 fun a98 => bd 2 10 (lI .u64 h88 (Addr.add a98 4) fun n100 => cf 93 #[.agg #[v92, v93, v94], .int .u64 2, .int .u64 n97, .int .u64 n100] h88 fun v101 h102 => K (.tuple #[]) h102))) (K (.tuple #[]) h88)))) (K (.tuple #[]) h6)))))
def F94 (K : Value → Heap → Prop) (h : Heap) (xa xb xc : Option Addr) : Prop :=
  (g94 K h (Array.push h (.cells #[.pointer xa, .pointer xb, .pointer xc] 115)))
theorem call94 {K : Value → Heap → Prop} {h : Heap} {xa xb xc : Option Addr} (H : F94 K h xa xb xc) : CallH Tryz.prog 94 #[(.agg #[(.pointer xa), (.pointer xb), (.pointer xc)])] h K :=
  callH_mk Tryz.func94 (by kernel_rfl) (Eq.mp (by kernel_rfl) H)
abbrev g95 (K : Value → Heap → Prop) (h H1 : Heap) (xa xb xc : Int) : Prop :=
  (lP H1 (Addr.add ⟨h.size, 0, none⟩ 2) fun o1 => lP H1 (Addr.add ⟨h.size, 0, none⟩ 1) fun o3 => nP o3 fun a4 => bd 0 3 (lI .u64 H1 (Addr.add a4 2) fun n6 => lP H1 (Addr.add ⟨h.size, 0, none⟩ 1) fun o8 => nP o8 fun a9 => bd 1 3 (lI .u64 H1 (Addr.add a9 3) fun n11 => nP o1 fun a12 => bd xa 10 (nP o1 fun a13 => stH H1 (Addr.add (Addr.add a12 2) (xa.toNat * 1)) (.int .u64 n6) fun h14 => ((0 : Int) ≤ (IntKind.wrap .i64 (xa + 1))) ∧ ((((IntKind.wrap .i64 (xa + 1)) : Int) < 10) ∧ (stH h14 (Addr.add (Addr.add a13 2) ((IntKind.wrap .i64 (xa + 1)).toNat * 1)) (.int .u64 n11) fun h15 => nP o1 fun a16 => stH h15 (Addr.add a16 1) (.int .i64 xb) fun h17 => ldH h17 ⟨h.size, 0, none⟩ fun v18 => ldH h17 (Addr.add ⟨h.size, 0, none⟩ 1) fun v19 => ldH h17 (Addr.add ⟨h.size, 0, none⟩ 2) fun v20 => cf 91 #[.agg #[v18, v19, v20], .int .i64 xa] h17 fun v21 h22 => asInt .u64 v21 fun n23 => cf 171 #[.int .u64 n23] h22 fun v24 h25 => asBool v24 fun b26 => ifB b26 (ldH h25 ⟨h.size, 0, none⟩ fun v27 => ldH h25 (Addr.add ⟨h.size, 0, none⟩ 1) fun v28 => ldH h25 (Addr.add ⟨h.size, 0, none⟩ 2) fun v29 => cf 82 #[.agg #[v27, v28, v29], .int .i64 0, .int .i64 14, .slice (some ⟨h25.size, 0, none⟩) 1 1] (Array.push h25 (.cells #[.int .u64 xc] 65)) fun v30 h31 => K (.tuple #[]) h31) (K (.tuple #[]) h25)))))))
def F95 (K : Value → Heap → Prop) (h : Heap) (xa xb xc : Option Addr) (xd xe xf : Int) : Prop :=
  (g95 K h (Array.push h (.cells #[.pointer xa, .pointer xb, .pointer xc] 116)) xd xe xf)
theorem call95 {K : Value → Heap → Prop} {h : Heap} {xa xb xc : Option Addr} {xd xe xf : Int} (H : F95 K h xa xb xc xd xe xf) : CallH Tryz.prog 95 #[(.agg #[(.pointer xa), (.pointer xb), (.pointer xc)]), (.int .i64 xd), (.int .i64 xe), (.int .u64 xf)] h K :=
  callH_mk Tryz.func95 (by kernel_rfl) (Eq.mp (by kernel_rfl) H)
abbrev g96 (K : Value → Heap → Prop) (h H1 : Heap) (xa xb : Int) : Prop :=
  (lP H1 (Addr.add ⟨h.size, 0, none⟩ 2) fun o1 => ldH H1 ⟨h.size, 0, none⟩ fun v2 => ldH H1 (Addr.add ⟨h.size, 0, none⟩ 1) fun v3 => ldH H1 (Addr.add ⟨h.size, 0, none⟩ 2) fun v4 => ldH H1 ⟨h.size, 0, none⟩ fun v5 => ldH H1 (Addr.add ⟨h.size, 0, none⟩ 1) fun v6 => ldH H1 (Addr.add ⟨h.size, 0, none⟩ 2) fun v7 => cf 91 #[.agg #[v2, v3, v4], .int .i64 1] H1 fun v8 h9 => asInt .u64 v8 fun n10 => ce h9 h.size 0 v5 (((cellAt h9 (Addr.add ⟨h.size, 0, none⟩ 1)) = (some v6)) ∧ (((cellAt h9 (Addr.add ⟨h.size, 0, none⟩ 2)) = (some v7)) ∧ (cf 91 #[.agg #[v5, v6, v7], .int .i64 xa] h9 fun v11 h12 => asInt .u64 v11 fun n13 => nP o1 fun a14 => stH h12 (Addr.add a14 1) (.int .i64 0) fun h15 => ldH h15 ⟨h.size, 0, none⟩ fun v16 => asPtrO v16 fun o17 => ldH h15 ⟨h.size, 0, none⟩ fun v18 => ldH h15 (Addr.add ⟨h.size, 0, none⟩ 1) fun v19 => ldH h15 (Addr.add ⟨h.size, 0, none⟩ 2) fun v20 => nP o1 fun a21 => bd 0 10 (lI .u64 h15 (Addr.add a21 2) fun n23 => ldH h15 ⟨h.size, 0, none⟩ fun v24 => ldH h15 (Addr.add ⟨h.size, 0, none⟩ 1) fun v25 => ldH h15 (Addr.add ⟨h.size, 0, none⟩ 2) fun v26 => cf 83 #[.agg #[v18, v19, v20], .int .u64 n23] h15 fun v27 h28 => asInt .i64 v27 fun n29 => ce h28 h.size 0 v24 (((cellAt h28 (Addr.add ⟨h.size, 0, none⟩ 1)) = (some v25)) ∧ (((cellAt h28 (Addr.add ⟨h.size, 0, none⟩ 2)) = (some v26)) ∧ (ce h28 h.size 0 v16 (cf 84 #[.int .u64 n13] h28 fun v30 h31 => asInt .i64 v30 fun n32 => ce h31 h.size 0 v24 (((cellAt h31 (Addr.add ⟨h.size, 0, none⟩ 1)) = (some v25)) ∧ (((cellAt h31 (Addr.add ⟨h.size, 0, none⟩ 2)) = (some v26)) ∧ (ce h31 h.size 0 v16 (cf 144 #[.int .u64 n10, .int .i64 n32, .bool false] h31 fun v33 h34 => asInt .u64 v33 fun n35 => ce h34 h.size 0 v24 (((cellAt h34 (Addr.add ⟨h.size, 0, none⟩ 1)) = (some v25)) ∧ (((cellAt h34 (Addr.add ⟨h.size, 0, none⟩ 2)) = (some v26)) ∧ (ce h34 h.size 0 v16 (cf 83 #[.agg #[v24, v25, v26], .int .u64 xb] h34 fun v36 h37 => asInt .i64 v36 fun n38 => ce h37 h.size 0 v16 (cf 84 #[.int .u64 n10] h37 fun v39 h40 => asInt .i64 v39 fun n41 => ce h40 h.size 0 v16 (cf 144 #[.int .u64 n13, .int .i64 n41, .bool true] h40 fun v42 h43 => asInt .u64 v42 fun n44 => ce h43 h.size 0 v16 (cf 173 #[.pointer o17, .int .i64 n29, .int .u64 n10, .int .u64 n35, .int .i64 n38, .int .u64 n13, .int .u64 n44] h43 fun v45 h46 => asBool v45 fun b47 => ifB b47 (nP o1 fun a48 => bd 0 10 (stH h46 (Addr.add a48 2) (.int .u64 xb) fun h49 => K (.tuple #[]) h49)) (K (.tuple #[]) h46)))))))))))))))))))))
def F96 (K : Value → Heap → Prop) (h : Heap) (xa xb xc : Option Addr) (xd xe : Int) : Prop :=
  (g96 K h (Array.push h (.cells #[.pointer xa, .pointer xb, .pointer xc] 116)) xd xe)
theorem call96 {K : Value → Heap → Prop} {h : Heap} {xa xb xc : Option Addr} {xd xe : Int} (H : F96 K h xa xb xc xd xe) : CallH Tryz.prog 96 #[(.agg #[(.pointer xa), (.pointer xb), (.pointer xc)]), (.int .i64 xd), (.int .u64 xe)] h K :=
  callH_mk Tryz.func96 (by kernel_rfl) (Eq.mp (by kernel_rfl) H)
abbrev g97 (K : Value → Heap → Prop) (h H1 : Heap) : Prop :=
  (ldH H1 ⟨h.size, 0, none⟩ fun v0 => ldH H1 (Addr.add ⟨h.size, 0, none⟩ 1) fun v1 => ldH H1 (Addr.add ⟨h.size, 0, none⟩ 2) fun v2 => cf 91 #[.agg #[v0, v1, v2], .int .i64 1] H1 fun v3 h4 => asInt .u64 v3 fun n5 => lP h4 (Addr.add ⟨h.size, 0, none⟩ 2) fun o7 => nP o7 fun a8 => stH h4 (Addr.add a8 1) (.int .i64 0) fun h9 => ldH h9 ⟨h.size, 0, none⟩ fun v10 => ldH h9 (Addr.add ⟨h.size, 0, none⟩ 1) fun v11 => ldH h9 (Addr.add ⟨h.size, 0, none⟩ 2) fun v12 => ldH h9 (Addr.add ⟨h.size, 0, none⟩ 2) fun v13 => asPtrO v13 fun o14 => nP o14 fun a15 => bd 0 10 (ldH h9 (Addr.add a15 2) fun v16 => asInt .u64 v16 fun n17 => cf 84 #[.int .u64 n5] h9 fun v18 h19 => asInt .i64 v18 fun n20 => ((cellAt h19 (Addr.add a15 2)) = (some v16)) ∧ (((cellAt h19 (Addr.add ⟨h.size, 0, none⟩ 2)) = (some v13)) ∧ (ce h19 h.size 0 v10 (((cellAt h19 (Addr.add ⟨h.size, 0, none⟩ 1)) = (some v11)) ∧ (((cellAt h19 (Addr.add ⟨h.size, 0, none⟩ 2)) = (some v12)) ∧ (cf 92 #[.agg #[v10, v11, v12], .int .u64 n17, .int .u64 n5, .int .i64 n20, .bool false] h19 fun v21 h22 => asBool v21 fun b23 => ifB b23 (lP h22 (Addr.add ⟨h.size, 0, none⟩ 1) fun o25 => cf 44 #[.pointer o25, .slice none 0 0] h22 fun v26 h27 => K (.tuple #[]) h27) (K (.tuple #[]) h22))))))))
def F97 (K : Value → Heap → Prop) (h : Heap) (xa xb xc : Option Addr) : Prop :=
  (g97 K h (Array.push h (.cells #[.pointer xa, .pointer xb, .pointer xc] 116)))
theorem call97 {K : Value → Heap → Prop} {h : Heap} {xa xb xc : Option Addr} (H : F97 K h xa xb xc) : CallH Tryz.prog 97 #[(.agg #[(.pointer xa), (.pointer xb), (.pointer xc)])] h K :=
  callH_mk Tryz.func97 (by kernel_rfl) (Eq.mp (by kernel_rfl) H)
abbrev g98 (K : Value → Heap → Prop) (h H1 : Heap) : Prop :=
  (lP H1 (Addr.add ⟨h.size, 0, none⟩ 2) fun o1 => nP o1 fun a2 => lI .i64 H1 (Addr.add a2 1) fun n4 => ifB (n4 == 0) (ldH H1 ⟨h.size, 0, none⟩ fun v5 => ldH H1 (Addr.add ⟨h.size, 0, none⟩ 1) fun v6 => ldH H1 (Addr.add ⟨h.size, 0, none⟩ 2) fun v7 => nP o1 fun a8 => bd 0 10 (lI .u64 H1 (Addr.add a8 2) fun n10 => ((cellAt (Array.push H1 (.cells #[.int .u64 n10] 65)) ⟨h.size, 0, none⟩) = (some v5)) ∧ (((cellAt (Array.push H1 (.cells #[.int .u64 n10] 65)) (Addr.add ⟨h.size, 0, none⟩ 1)) = (some v6)) ∧ (((cellAt (Array.push H1 (.cells #[.int .u64 n10] 65)) (Addr.add ⟨h.size, 0, none⟩ 2)) = (some v7)) ∧ (cf 82 #[.agg #[v5, v6, v7], .int .i64 1, .int .i64 10, .slice (some ⟨H1.size, 0, none⟩) 1 1] (Array.push H1 (.cells #[.int .u64 n10] 65)) fun v11 h12 => K (.tuple #[]) h12))))) (ifB (n4 == 1) (lP H1 (Addr.add ⟨h.size, 0, none⟩ 1) fun o14 => nP o14 fun a15 => bd 0 3 (lI .u64 H1 (Addr.add a15 2) fun n17 => lP H1 (Addr.add ⟨h.size, 0, none⟩ 1) fun o19 => nP o19 fun a20 => bd 1 3 (lI .u64 H1 (Addr.add a20 3) fun n22 => nP o1 fun a23 => bd 1 10 (nP o1 fun a24 => stH H1 (Addr.add a23 3) (.int .u64 n17) fun h25 => bd 2 10 (stH h25 (Addr.add a24 4) (.int .u64 n22) fun h26 => nP o1 fun a27 => stH h26 (Addr.add a27 1) (.int .i64 2) fun h28 => ldH h28 ⟨h.size, 0, none⟩ fun v29 => ldH h28 (Addr.add ⟨h.size, 0, none⟩ 1) fun v30 => ldH h28 (Addr.add ⟨h.size, 0, none⟩ 2) fun v31 => cf 91 #[.agg #[v29, v30, v31], .int .i64 1] h28 fun v32 h33 => asInt .u64 v32 fun n34 => cf 171 #[.int .u64 n34] h33 fun v35 h36 => asBool v35 fun b37 => ifB (!b37) (lP h36 (Addr.add ⟨h.size, 0, none⟩ 1) fun o39 => cf 44 #[.pointer o39, .slice none 0 0] h36 fun v40 h41 => K (.tuple #[]) h41) (K (.tuple #[]) h36)))))) (ifB (n4 == 2) (nP o1 fun a42 => stH H1 (Addr.add a42 1) (.int .i64 3) fun h43 => nP o1 fun a44 => bd 0 10 (ldH h43 (Addr.add a44 2) fun v45 => asInt .u64 v45 fun n46 => lP h43 ⟨h.size, 0, none⟩ fun o48 => cf 85 #[.pointer o48, .int .i64 2] h43 fun v49 h50 => asInt .u64 v49 fun n51 => ((cellAt h50 (Addr.add a44 2)) = (some v45)) ∧ (cf 174 #[.int .i64 (IntKind.wrap .i64 n46), .int .i64 (IntKind.wrap .i64 n51)] h50 fun v52 h53 => asBool v52 fun b54 => ifB b54 (nP o1 fun a55 => stH h53 (Addr.add a55 1) (.int .i64 4) fun h56 => K (.tuple #[]) h56) (K (.tuple #[]) h53)))) (ifB (n4 == 3) (ldH H1 ⟨h.size, 0, none⟩ fun v57 => ldH H1 ⟨h.size, 1, none⟩ fun v58 => ldH H1 ⟨h.size, 2, none⟩ fun v59 => cf 97 #[.agg #[v57, v58, v59]] H1 fun v60 h61 => K (.tuple #[]) h61) (K (.tuple #[]) H1)))))
def F98 (K : Value → Heap → Prop) (h : Heap) (xa xb xc : Option Addr) : Prop :=
  (g98 K h (Array.push h (.cells #[.pointer xa, .pointer xb, .pointer xc] 116)))
theorem call98 {K : Value → Heap → Prop} {h : Heap} {xa xb xc : Option Addr} (H : F98 K h xa xb xc) : CallH Tryz.prog 98 #[(.agg #[(.pointer xa), (.pointer xb), (.pointer xc)])] h K :=
  callH_mk Tryz.func98 (by kernel_rfl) (Eq.mp (by kernel_rfl) H)
abbrev g163 (K : Value → Heap → Prop) (h H1 H2 : Heap) : Prop :=
  (lP H2 (Addr.add ⟨h.size, 0, none⟩ 2) fun o1 => lI .i64 H2 ⟨H1.size, 0, none⟩ fun n3 => ((0 : Int) ≤ 8) ∧ (lI .i64 H2 ⟨H1.size, 1, none⟩ fun n5 => nP o1 fun a6 => bd 6 10 (stH H2 (Addr.add a6 8) (.int .u64 (IntKind.wrap .u64 ((((BitVec.ofInt 64 (IntKind.wrap .u64 ((IntKind.wrap .u64 n3) * 256))) ||| (BitVec.ofInt 64 (IntKind.wrap .u64 n5))).toNat : Nat) : Int))) fun h7 => K (.tuple #[]) h7)))
def F163 (K : Value → Heap → Prop) (h : Heap) (xa xb xc : Option Addr) (xd xe : Int) : Prop :=
  (g163 K h (Array.push h (.cells #[.pointer xa, .pointer xb, .pointer xc] 114)) (Array.push (Array.push h (.cells #[.pointer xa, .pointer xb, .pointer xc] 114)) (.cells #[.int .i64 xd, .int .i64 xe] 193)))
theorem call163 {K : Value → Heap → Prop} {h : Heap} {xa xb xc : Option Addr} {xd xe : Int} (H : F163 K h xa xb xc xd xe) : CallH Tryz.prog 163 #[(.agg #[(.pointer xa), (.pointer xb), (.pointer xc)]), (.agg #[(.int .i64 xd), (.int .i64 xe)])] h K :=
  callH_mk Tryz.func163 (by kernel_rfl) (Eq.mp (by kernel_rfl) H)
abbrev g165 (K : Value → Heap → Prop) (h H1 H2 : Heap) : Prop :=
  (lP H2 (Addr.add ⟨h.size, 0, none⟩ 2) fun o1 => nP o1 fun a2 => bd 6 10 (lI .u64 H2 (Addr.add a2 8) fun n4 => ((0 : Int) ≤ 8) ∧ (lP H2 (Addr.add ⟨h.size, 0, none⟩ 2) fun o6 => nP o6 fun a7 => bd 6 10 (lI .u64 H2 (Addr.add a7 8) fun n9 => stH H2 ⟨H1.size, 0, none⟩ (.int .i64 (IntKind.wrap .i64 (Int.fdiv n4 256))) fun h10 => stH h10 ⟨H1.size, 1, none⟩ (.int .i64 (IntKind.wrap .i64 (IntKind.wrap .u64 ((((BitVec.ofInt 64 n9) &&& (BitVec.ofInt 64 255)).toNat : Nat) : Int)))) fun h11 => ldH h11 ⟨H1.size, 0, none⟩ fun v12 => ldH h11 ⟨H1.size, 1, none⟩ fun v13 => K (.agg #[v12, v13]) h11))))
def F165 (K : Value → Heap → Prop) (h : Heap) (xa xb xc : Option Addr) : Prop :=
  (g165 K h (Array.push h (.cells #[.pointer xa, .pointer xb, .pointer xc] 114)) (Array.push (Array.push h (.cells #[.pointer xa, .pointer xb, .pointer xc] 114)) (.cells #[.int .i64 0, .int .i64 0] 193)))
theorem call165 {K : Value → Heap → Prop} {h : Heap} {xa xb xc : Option Addr} (H : F165 K h xa xb xc) : CallH Tryz.prog 165 #[(.agg #[(.pointer xa), (.pointer xb), (.pointer xc)])] h K :=
  callH_mk Tryz.func165 (by kernel_rfl) (Eq.mp (by kernel_rfl) H)
abbrev g167 (K : Value → Heap → Prop) (h H1 : Heap) (xa : Int) : Prop :=
  (lP H1 (Addr.add ⟨h.size, 0, none⟩ 2) fun o1 => nP o1 fun a2 => bd 5 10 (lI .u64 H1 (Addr.add a2 7) fun n4 => cf 209 #[.int .i64 (IntKind.wrap .i64 n4), .int .i64 xa] H1 fun v5 h6 => asInt .i64 v5 fun n7 => K (.int .u64 (IntKind.wrap .u64 n7)) h6))
def F167 (K : Value → Heap → Prop) (h : Heap) (xa xb xc : Option Addr) (xd : Int) : Prop :=
  (g167 K h (Array.push h (.cells #[.pointer xa, .pointer xb, .pointer xc] 114)) xd)
theorem call167 {K : Value → Heap → Prop} {h : Heap} {xa xb xc : Option Addr} {xd : Int} (H : F167 K h xa xb xc xd) : CallH Tryz.prog 167 #[(.agg #[(.pointer xa), (.pointer xb), (.pointer xc)]), (.int .i64 xd)] h K :=
  callH_mk Tryz.func167 (by kernel_rfl) (Eq.mp (by kernel_rfl) H)
abbrev g170 (K : Value → Heap → Prop) (h H1 : Heap) (xa : Bool) : Prop :=
  (ifB xa (ldH H1 ⟨h.size, 0, none⟩ fun v0 => ldH H1 (Addr.add ⟨h.size, 0, none⟩ 1) fun v1 => ldH H1 (Addr.add ⟨h.size, 0, none⟩ 2) fun v2 => cf 93 #[.agg #[v0, v1, v2], .int .u64 0, .int .u64 0, .int .u64 0] H1 fun v3 h4 => K (.tuple #[]) h4) (lP H1 (Addr.add ⟨h.size, 0, none⟩ 2) fun o6 => nP o6 fun a7 => bd 3 10 (stH H1 (Addr.add a7 5) (.int .u64 0) fun h8 => lP h8 (Addr.add ⟨h.size, 0, none⟩ 2) fun o10 => nP o10 fun a11 => stH h8 (Addr.add a11 1) (.int .i64 4) fun h12 => K (.tuple #[]) h12)))
def F170 (K : Value → Heap → Prop) (h : Heap) (xa xb xc : Option Addr) (xd : Bool) : Prop :=
  (g170 K h (Array.push h (.cells #[.pointer xa, .pointer xb, .pointer xc] 114)) xd)
theorem call170 {K : Value → Heap → Prop} {h : Heap} {xa xb xc : Option Addr} {xd : Bool} (H : F170 K h xa xb xc xd) : CallH Tryz.prog 170 #[(.agg #[(.pointer xa), (.pointer xb), (.pointer xc)]), (.bool xd)] h K :=
  callH_mk Tryz.func170 (by kernel_rfl) (Eq.mp (by kernel_rfl) H)
end
section
open Mod
abbrev rV (M T b o : Nat) : Value := .agg #[mP M, mP T, fP b o]
theorem node_iN {p : Pl} (B : PlB p) (n f : Int) : iN (p.node n f) := by
  have h1 := B.no
  have h2 := B.wi
  have h3 := B.nd
  have h4 := B.li
  unfold Pl.node
  split
  · rename_i c
    have : (n - 1) * p.width ≤ 64 * 11 := Int.mul_le_mul (by omega) (by omega) (by omega) (by omega)
    have h0 : 0 ≤ (n - 1) * p.width := Int.mul_nonneg (by omega) (by omega)
    constructor <;> omega
  · constructor <;> omega
theorem at_iN {p : Pl} (B : PlB p) (n : Int) : iN (p.at n) := by
  have h1 := B.tr
  have h2 := B.si
  have h3 := B.nd
  have h4 := B.li
  unfold Pl.at
  split <;> constructor <;> omega
theorem two_U {u v : Int} (h1 : U u) (h2 : U v) : ∀ w ∈ [u, v], U w := by
  intro w hw
  simp only [List.mem_cons, List.not_mem_nil, or_false] at hw
  rcases hw with rfl | rfl
  · exact h1
  · exact h2
section
variable {K : Value → Heap → Prop} {h : Heap} {M T b o N : Nat} {tv : Value} {fo : Option (Nat × Nat)} {x : Run} {R : Hp}
theorem mWord_call (i : Nat) (hi : Nat.ble (i + 1) 10 = true) (H : Sat h (RunS M T tv (some (b, o)) x R)) (k : ∀ h', Sat h' (RunS M T tv (some (b, o)) x R) → K (.int .u64 (x.f.g i)) h') :
    CallH Tryz.prog 91 #[rV M T b o, .int .i64 (i : Int)] h K := by
  refine call91 ?_
  unfold F91 g91 bd lP nP
  have H1 := RunS.new H (.cells #[mP M, mP T, fP b o] 112); generalize h.push (.cells #[mP M, mP T, fP b o] 112) = h1 at *; generalize h.size = N at *
  have hi' : i < 10 := by rw [Nat.ble_eq] at hi; omega
  try simp only [nilC, bsx, Nat.reduceAdd, Int.reduceLE, Int.reduceLT, Int.reduceToNat, RunS.l H1]
  refine ⟨by omega, by omega, ?_⟩
  rw [show o + (2 + i) = o + (i + 2) by omega, RunS.rg H1 hi]
  try simp only [nilC, bsx, Nat.reduceAdd, Int.reduceLE, Int.reduceLT, Int.reduceToNat]
  exact k h1 (RunS.drp H1)
theorem mCall_call (H : Sat h (RunS M T tv (some (b, o)) x R)) {pc fn : Int} {a : Option Addr} {l c : Nat} {rs : List Int} (A : Args R a l c rs) (hl : l ≤ 10) (hd : x.t.fr.length < 1073741823)
    (k : ∀ h' b' o', ¬ (b' = b ∧ o' = o) → Stale h' (some (b, o)) (x.pc pc).f → Sat h' (RunS M T tv (some (b', o')) (x.call pc fn rs) R) → K (.tuple #[]) h') :
    CallH Tryz.prog 82 #[rV M T b o, .int .i64 pc, .int .i64 fn, .slice a l c] h K := by
  refine call82 ?_
  unfold F82 g82 cf lP nP
  have H1 := RunS.new H (.cells #[mP M, mP T, fP b o] 112); generalize h.push (.cells #[mP M, mP T, fP b o] 112) = h1 at *; generalize h.size = N at *
  try simp only [nilC, bsx, Nat.reduceAdd, Int.reduceLE, Int.reduceLT, Int.reduceToNat, RunS.l H1]
  refine RunS.stP H1 fun h2 H2 => ?_
  try simp only [nilC, bsx, Nat.reduceAdd, Int.reduceLE, Int.reduceLT, Int.reduceToNat, RunS.l H2]
  refine callV_fn (rPush H2 A.skip hl (by show (x.t.fr.dropLast ++ [_]).length < _; simp; omega) fun h3 b' o' h1 h2 H3 => k h3 b' o' (fun e => h1 b o rfl e) h2 (RunS.drp H3))
theorem popN (H : Sat h (RunS M T tv fo x R)) {l : Nat} (rs : List Int) {ty : TypeId} (hr : rs.length = l) (hu : ∀ v ∈ rs, U v) (hl : Nat.ble l 3 = true) (k : ∀ h', Sat h' (RunS M T tv none (x.pop rs) R) → K (.tuple #[]) h') :
    CallH Tryz.prog 44 #[mP T, .slice (some ⟨h.size, 0, none⟩) l l] (h.push (.cells (uvs rs).toArray ty)) K := rPopN H rs hr hu (Nat.le_of_ble_eq_true hl) k
theorem mCallN (H : Sat h (RunS M T tv (some (b, o)) x R)) {pc fn : Int} {l : Nat} (rs : List Int) {ty : TypeId} (hr : rs.length = l) (hu : ∀ v ∈ rs, U v) (hl : Nat.ble l 10 = true) (hd : x.t.fr.length < 1073741823)
    (k : ∀ h' b' o', ¬ (b' = b ∧ o' = o) → Stale h' (some (b, o)) (x.pc pc).f → Sat h' (RunS M T tv (some (b', o')) (x.call pc fn rs) R) → K (.tuple #[]) h') :
    CallH Tryz.prog 82 #[rV M T b o, .int .i64 pc, .int .i64 fn, .slice (some ⟨h.size, 0, none⟩) l l] (h.push (.cells (uvs rs).toArray ty)) K :=
  mCall_call (RunS.new H (.cells (uvs rs).toArray ty)) (Args.mk' hr hu) (Nat.le_of_ble_eq_true hl) hd fun h' b' o' h1 h2 H' => k h' b' o' h1 h2 (RunS.drp H')
theorem mAt_call (H : Sat h (RunS M T tv fo x R)) {pl : Int} (k : ∀ h', Sat h' (RunS M T tv fo x R) → K (.int .i64 (x.at pl)) h') :
    CallH Tryz.prog 83 #[rV M T b o, .int .u64 pl] h K := by
  refine call83 ?_
  unfold F83 g83 cf lP
  have H1 := RunS.new H (.cells #[mP M, mP T, fP b o] 112); generalize h.push (.cells #[mP M, mP T, fP b o] 112) = h1 at *; generalize h.size = N at *
  try simp only [nilC, bsx, Nat.reduceAdd, Int.reduceLE, Int.reduceLT, Int.reduceToNat, RunS.l H1]
  refine callV_fn (rPlan H1 fun h2 H2 => pl15 ?_)
  refine callV_fn (plTree_call (RunS.pl H) (s64_iN _) fun h3 o3 => ?_)
  try simp only [nilC, bsx, Nat.reduceAdd, Int.reduceLE, Int.reduceLT, Int.reduceToNat]
  exact k h3 (RunS.drp (RunS.old H2 o3))
theorem mNode_call (H : Sat h (RunS M T tv fo x R)) {w f : Int} (hw : U w) (hf : iN f) (k : ∀ h', Sat h' (RunS M T tv fo x R) → K (.int .i64 (x.nodeW w f)) h') :
    CallH Tryz.prog 86 #[rV M T b o, .int .u64 w, .int .i64 f] h K := by
  refine call86 ?_
  unfold F86 g86 cf lP
  have H1 := RunS.new H (.cells #[mP M, mP T, fP b o] 112); generalize h.push (.cells #[mP M, mP T, fP b o] 112) = h1 at *; generalize h.size = N at *
  try simp only [nilC, bsx, Nat.reduceAdd, Int.reduceLE, Int.reduceLT, Int.reduceToNat, RunS.l H1]
  refine callV_fn (rPlan H1 fun h2 H2 => pl15 ?_)
  refine callV_fn (wPtr_call hw ?_)
  try simp only [nilC, bsx, Nat.reduceAdd, Int.reduceLE, Int.reduceLT, Int.reduceToNat]
  refine callV_fn (plNode_call (RunS.pl H) (wptr_iN _) hf fun h3 o3 => ?_)
  try simp only [nilC, bsx, Nat.reduceAdd, Int.reduceLE, Int.reduceLT, Int.reduceToNat]
  exact k h3 (RunS.drp (RunS.old H2 o3))
theorem mSwing_call (H : Sat h (RunS M T tv fo x R)) {pl w ptr : Int} {d : Bool} (hw : U w) (hs : x.m.mm.st < 1099511627776) (k : ∀ h', Sat h' (RunS M T tv fo (x.swing pl w ptr d).2 R) → K (.bool (x.swing pl w ptr d).1) h') :
    CallH Tryz.prog 92 #[rV M T b o, .int .u64 pl, .int .u64 w, .int .i64 ptr, .bool d] h K := by
  refine call92 ?_
  unfold F92 g92 cf ce
  have H1 := RunS.new H (.cells #[mP M, mP T, fP b o] 112); generalize h.push (.cells #[mP M, mP T, fP b o] 112) = h1 at *; generalize h.size = N at *
  try simp only [nilC, bsx, Nat.reduceAdd, Int.reduceLE, Int.reduceLT, Int.reduceToNat, RunS.l H1]
  refine callV_fn (mAt_call H1 fun h2 H2 => ?_)
  try simp only [nilC, bsx, Nat.reduceAdd, Int.reduceLE, Int.reduceLT, Int.reduceToNat, RunS.l H2]
  refine callV_fn (wNext_call hw ?_)
  try simp only [nilC, bsx, Nat.reduceAdd, Int.reduceLE, Int.reduceLT, Int.reduceToNat, RunS.l H2]
  refine callV_fn (rCas H2 (at_iN (RunS.pl H) _) wNext_U hs fun h3 H3 => ?_)
  try simp only [nilC, bsx, Nat.reduceAdd, Int.reduceLE, Int.reduceLT, Int.reduceToNat]
  exact k h3 (RunS.drp H3)
theorem mEnd_call (H : Sat h (RunS M T tv (some (b, o)) x R)) {k7 k8 k9 : Int} (h7 : U k7) (h8 : U k8) (h9 : U k9) (hd : x.t.fr.length < 1073741823)
    (k : ∀ h' b' o', ¬ (b' = b ∧ o' = o) → Stale h' (some (b, o)) ((((x.s 7 k7).s 8 k8).s 9 k9).pc 90).f → Sat h' (RunS M T tv (some (b', o')) (x.fin k7 k8 k9) R) → K (.tuple #[]) h') :
    CallH Tryz.prog 93 #[rV M T b o, .int .u64 k7, .int .u64 k8, .int .u64 k9] h K := by
  refine call93 ?_
  unfold F93 g93 cf ce bd lP nP
  have H1 := RunS.new H (.cells #[mP M, mP T, fP b o] 112); generalize h.push (.cells #[mP M, mP T, fP b o] 112) = h1 at *; generalize h.size = N at *
  try simp only [nilC, bsx, Nat.reduceAdd, Int.reduceLE, Int.reduceLT, Int.reduceToNat, RunS.l H1]
  refine RunS.stR (i := 7) H1 rfl h7 fun h2 H2 => ?_
  try simp only [nilC, bsx, Nat.reduceAdd, Int.reduceLE, Int.reduceLT, Int.reduceToNat, RunS.l H2]
  refine RunS.stR (i := 8) H2 rfl h8 fun h3 H3 => ?_
  try simp only [nilC, bsx, Nat.reduceAdd, Int.reduceLE, Int.reduceLT, Int.reduceToNat, RunS.l H3]
  refine RunS.stR (i := 9) H3 rfl h9 fun h4 H4 => ?_
  try simp only [nilC, bsx, Nat.reduceAdd, Int.reduceLE, Int.reduceLT, Int.reduceToNat, RunS.l H4]
  refine callV_fn (mCall_call H4 Args.none (by omega) ?_ fun h5 b' o' h1 h2 H5 => k h5 b' o' h1 h2 (RunS.drp H5))
  have e := List.length_pos_iff.2 (thrS_ne (RunS.thr H))
  show ((((x.t.fr.dropLast ++ [_]).dropLast ++ [_]).dropLast) ++ [_]).length < _
  simp
  omega
theorem fr_ne (H : Sat h (RunS M T tv (some (b, o)) x R)) : 0 < x.t.fr.length := List.length_pos_iff.2 (thrS_ne (RunS.thr H))
theorem mRead_call (H : Sat h (RunS M T tv (some (b, o)) x R)) (hs : x.m.mm.st < 1099511627776) (hd : x.t.fr.length < 1073741823) (k : ∀ h', Sat h' (RunS M T tv none (mRead x) R) → K (.tuple #[]) h') :
    CallH Tryz.prog 50 #[rV M T b o] h K := by
  refine call50 ?_
  unfold F50 g50 cf ce bd lP lI nP
  have B := RunS.fB H
  have P := RunS.pl H
  unfold mRead at k
  have H1 := RunS.new H (.cells #[mP M, mP T, fP b o] 112); generalize h.push (.cells #[mP M, mP T, fP b o] 112) = h1 at *; generalize h.size = N at *
  try simp +decide only [nilC, bsx, Nat.reduceAdd, Int.reduceLE, Int.reduceLT, Int.reduceToNat, rsx, g_s, g_s_ne, RunS.l H1, RunS.r H1, RunS.tc H1]
  refine ifB_dec (fun c => ?_) (fun c => ?_)
  · rw [if_pos c] at k
    refine callV_fn (mAt_call H1 fun h2 H2 => ?_)
    try simp +decide only [nilC, bsx, Nat.reduceAdd, Int.reduceLE, Int.reduceLT, Int.reduceToNat, rsx, g_s, g_s_ne, RunS.l H2, RunS.c H2]
    refine callV_fn (mCallN H2 [1, u64 (x.at (x.f.g 0))] rfl (two_U (U.lit rfl) (u64_U _)) rfl hd fun h4 b' o' _ _ H4 => k h4 (RunS.drp (RunS.none H4)))
  · rw [if_neg c] at k
    have hr := (RunS.B H).ret.2
    have hr0 : U (x.ret 0) := getD_U hr 0
    refine callV_fn (wPtr_call hr0 ?_)
    try simp +decide only [nilC, bsx, Nat.reduceAdd, Int.reduceLE, Int.reduceLT, Int.reduceToNat, rsx, g_s, g_s_ne, RunS.l H1]
    refine ifB_dec (fun c2 => ?_) (fun c2 => ?_)
    · rw [if_pos c2] at k
      exact callV_fn (popN H1 [x.ret 0, 1099511627776] rfl (two_U hr0 (U.lit rfl)) rfl fun h2 H2 => k h2 (RunS.drp H2))
    · rw [if_neg c2] at k
      refine callV_fn (mNode_call H1 hr0 (by decide) fun h2 H2 => ?_)
      try simp only [nilC, bsx, Nat.reduceAdd, Int.reduceLE, Int.reduceLT, Int.reduceToNat, RunS.l H2]
      refine callV_fn (rLoad H2 (node_iN P _ _) hs fun h3 H3 u3 => ?_)
      try simp only [nilC, bsx, Nat.reduceAdd, Int.reduceLE, Int.reduceLT, Int.reduceToNat, RunS.l H3]
      exact callV_fn (popN H3 [x.ret 0, (x.load (x.nodeW (x.ret 0) 0)).1] rfl (two_U hr0 u3) rfl fun h4 H4 => k h4 (RunS.drp H4))
end
end
section
open Mod
theorem and255 {n : Int} (h : U n) : Mod.u64 ((((BitVec.ofInt 64 n) &&& (BitVec.ofInt 64 255)).toNat : Nat) : Int) = n % 256 := by
  have h0 := h.1
  have h1 := h.2
  rw [BitVec.toNat_and, h.bv, show (BitVec.ofInt 64 255).toNat = 2 ^ 8 - 1 from rfl, Nat.and_two_pow_sub_one_eq_mod]
  unfold Mod.u64
  omega
theorem lor_U (a b : Int) : U (((Nat.lor (Mod.u64 a).toNat (Mod.u64 b).toNat : Nat)) : Int) := by
  have ha := u64_U a
  have hb := u64_U b
  have := Nat.or_lt_two_pow (x := (Mod.u64 a).toNat) (y := (Mod.u64 b).toNat) (n := 64) (by have := ha.1; have := ha.2; omega) (by have := hb.1; have := hb.2; omega)
  constructor
  · omega
  · have e : (Mod.u64 a).toNat ||| (Mod.u64 b).toNat = Nat.lor (Mod.u64 a).toNat (Mod.u64 b).toNat := rfl
    rw [e] at this
    omega
theorem or_lor (a b : Int) : Mod.u64 ((((BitVec.ofInt 64 (Mod.u64 a)) ||| (BitVec.ofInt 64 (Mod.u64 b))).toNat : Nat) : Int) = ((Nat.lor (Mod.u64 a).toNat (Mod.u64 b).toNat : Nat) : Int) := by
  rw [BitVec.toNat_or, (u64_U a).bv, (u64_U b).bv]
  exact (lor_U a b).u64
section
variable {K : Value → Heap → Prop} {h : Heap} {M T b o N : Nat} {tv : Value} {fo : Option (Nat × Nat)} {x : Run} {R : Hp}
theorem miSpan_call (H : Sat h (RunS M T tv (some (b, o)) x R)) (k : ∀ h', Sat h' (RunS M T tv (some (b, o)) x R) → K (spV (iSpan x)) h') :
    CallH Tryz.prog 165 #[rV M T b o] h K := by
  refine call165 ?_
  unfold F165 g165 bd lP lI nP
  have B := RunS.fB H
  have H1 := RunS.new H (.cells #[mP M, mP T, fP b o] 114); generalize h.push (.cells #[mP M, mP T, fP b o] 114) = h1 at *; generalize h.size = N at *
  have H2 := RunS.new H1 (.cells #[.int .i64 0, .int .i64 0] 193)
  generalize h1.push (.cells #[.int .i64 0, .int .i64 0] 193) = h2 at *
  generalize h1.size = N2 at *
  try simp +decide only [nilC, bsx, Nat.reduceAdd, Int.reduceLE, Int.reduceLT, Int.reduceToNat, rsx, g_s, g_s_ne, RunS.l2 H2, RunS.r H2, and255 (B.g 6)]
  have hg := B.g 6
  have g0 := hg.1
  have g1 := hg.2
  rw [fdiv_pos (by omega), show s64 (x.f.g 6 / 256) = x.f.g 6 / 256 by unfold s64; omega, show s64 (x.f.g 6 % 256) = x.f.g 6 % 256 by unfold s64; omega]
  refine stR (RunS.loc H2) rfl trivial fun h3 w3 => stR w3.new rfl trivial fun h4 w4 => ldR w4.new rfl (ldR w4.new rfl ?_)
  exact k h4 (RunS.drp (RunS.drp (RunS.wr (RunS.wr H2 w3.new w3.old) w4.new w4.old)))
theorem miKeep_call (H : Sat h (RunS M T tv (some (b, o)) x R)) {s : Sp} (k : ∀ h', Sat h' (RunS M T tv (some (b, o)) (iKeep x s) R) → K (.tuple #[]) h') :
    CallH Tryz.prog 163 #[rV M T b o, spV s] h K := by
  refine call163 ?_
  unfold F163 g163 bd lP lI nP
  have H1 := RunS.new H (.cells #[mP M, mP T, fP b o] 114); generalize h.push (.cells #[mP M, mP T, fP b o] 114) = h1 at *; generalize h.size = N at *
  have H2 := RunS.new H1 (.cells #[.int .i64 s.lo, .int .i64 s.hi] 193)
  generalize h1.push (.cells #[.int .i64 s.lo, .int .i64 s.hi] 193) = h2 at *
  generalize h1.size = N2 at *
  have O := RunS.loc H2
  have l0 : ∀ F : Value → Prop, ldH h2 ⟨N2, 0, none⟩ F = F (.int .i64 s.lo) := fun F => by unfold ldH; rw [cellAt_of O]; rfl
  have l1 : ∀ F : Value → Prop, ldH h2 ⟨N2, 1, none⟩ F = F (.int .i64 s.hi) := fun F => by unfold ldH; rw [cellAt_of O]; rfl
  try simp +decide only [nilC, bsx, Nat.reduceAdd, Int.reduceLE, Int.reduceLT, Int.reduceToNat, rsx, g_s, g_s_ne, RunS.l2 H2, l0, l1, or_lor]
  exact RunS.stR (i := 6) H2 rfl (lor_U _ _) fun h3 H3 => k h3 (RunS.drp (RunS.drp H3))
theorem miHere_call (H : Sat h (RunS M T tv (some (b, o)) x R)) {l : Int} (hl : iN l) (k : ∀ h', Sat h' (RunS M T tv (some (b, o)) x R) → K (.int .u64 (iHere x l)) h') :
    CallH Tryz.prog 167 #[rV M T b o, .int .i64 l] h K := by
  refine call167 ?_
  unfold F167 g167 cf bd lP lI nP
  have H1 := RunS.new H (.cells #[mP M, mP T, fP b o] 114); generalize h.push (.cells #[mP M, mP T, fP b o] 114) = h1 at *; generalize h.size = N at *
  try simp +decide only [nilC, bsx, Nat.reduceAdd, Int.reduceLE, Int.reduceLT, Int.reduceToNat, rsx, g_s, g_s_ne, RunS.l H1, RunS.r H1]
  refine callV_fn (tUp_call hl ?_)
  try simp only [nilC, bsx, Nat.reduceAdd, Int.reduceLE, Int.reduceLT, Int.reduceToNat]
  exact k h1 (RunS.drp H1)
theorem miDone_call (H : Sat h (RunS M T tv (some (b, o)) x R)) {ok : Bool} (hd : x.t.fr.length < 1000000002) (k : ∀ h', Sat h' (RunS M T tv none (iDone x ok) R) → K (.tuple #[]) h') :
    CallH Tryz.prog 170 #[rV M T b o, .bool ok] h K := by
  refine call170 ?_
  unfold F170 g170 cf bd lP nP
  have H1 := RunS.new H (.cells #[mP M, mP T, fP b o] 114); generalize h.push (.cells #[mP M, mP T, fP b o] 114) = h1 at *; generalize h.size = N at *
  unfold iDone at k
  cases ok with
  | true =>
    try simp only [nilC, bsx, Nat.reduceAdd, Int.reduceLE, Int.reduceLT, Int.reduceToNat, RunS.l H1]
    exact callV_fn (mEnd_call H1 U0 U0 U0 (by omega) fun h2 b' o' _ _ H2 => k h2 (RunS.drp (RunS.none H2)))
  | false =>
    try simp only [nilC, bsx, Nat.reduceAdd, Int.reduceLE, Int.reduceLT, Int.reduceToNat, RunS.l H1]
    refine RunS.stR (i := 3) H1 rfl U0 fun h2 H2 => ?_
    try simp only [nilC, bsx, Nat.reduceAdd, Int.reduceLE, Int.reduceLT, Int.reduceToNat, RunS.l H2]
    exact RunS.stP H2 fun h3 H3 => k h3 (RunS.drp (RunS.none H3))
theorem RunS.ret (H : Sat h (RunS M T tv fo x R)) (i : Nat) : U (x.ret i) := getD_U (RunS.B H).ret.2 i
theorem miTake_call (H : Sat h (RunS M T tv (some (b, o)) x R)) (O : Ok x) (hp : x.f.pc ≤ 3) (k : ∀ h', Sat h' (RunS M T tv none (iTake x) R) → K (.tuple #[]) h') :
    CallH Tryz.prog 87 #[rV M T b o] h K := by
  refine call87 ?_
  unfold F87 g87 cf ce bd lP lI nP
  have B := RunS.fB H
  have P := RunS.pl H
  have hp0 := O.pc
  have hd := O.fr
  have r0 := RunS.ret H 0
  unfold iTake at k
  dsimp only at k
  have H1 := RunS.new H (.cells #[mP M, mP T, fP b o] 114); generalize h.push (.cells #[mP M, mP T, fP b o] 114) = h1 at *; generalize h.size = N at *
  try simp +decide only [nilC, bsx, Nat.reduceAdd, Int.reduceLE, Int.reduceLT, Int.reduceToNat, rsx, g_s, g_s_ne, RunS.l H1, RunS.r H1, RunS.tc H1]
  refine ifB_dec (fun c => ?_) (fun c => ?_)
  · rw [if_pos c] at k
    exact callV_fn (mCall_call H1 Args.none (by omega) (by omega) fun h2 b' o' _ _ H2 => k h2 (RunS.drp (RunS.none H2)))
  rw [if_neg c] at k
  refine ifB_dec (fun c => ?_) (fun c => ?_)
  · rw [if_pos c] at k
    refine RunS.stR (i := 2) H1 rfl r0 fun h2 H2 => ?_
    try simp +decide only [nilC, bsx, Nat.reduceAdd, Int.reduceLE, Int.reduceLT, Int.reduceToNat, rsx, g_s, g_s_ne, RunS.l H2, RunS.r H2, B.len]
    refine ifB_mk (fun c2 => ?_) (fun c2 => ?_)
    · have c2' : x.ret 0 ≠ 0 := by simpa [Run.ret] using c2
      rw [if_pos c2'] at k
      exact RunS.stP H2 fun h3 H3 => k h3 (RunS.drp (RunS.none H3))
    · have c2' : ¬ x.ret 0 ≠ 0 := by simpa [Run.ret] using c2
      rw [if_neg c2'] at k
      have hfl := frl_s x 2 (x.ret 0)
      refine ⟨fun vs h' => (∃ w, vs = [.bool (decide (x.f.g 3 = 0 ∧ x.t.retired.length > 0)), w]) ∧ Sat h' (RunS M T tv (some (b, o)) (x.s 2 (x.ret 0)) (pt N (.cells #[mP M, mP T, fP b o] 114) * R)), ?_, ?_⟩
      · refine ifB_dec (fun c3 => ?_) (fun c3 => ?_)
        · refine callV_fn (pileLen_call (RunS.thr H2) ?_)
          try simp only [nilC, bsx, Nat.reduceAdd, Int.reduceLE, Int.reduceLT, Int.reduceToNat]
          have e : decide (((x.s 2 (x.ret 0)).t.retired.length : Int) > 0) = decide (x.f.g 3 = 0 ∧ x.t.retired.length > 0) := by
            rw [decide_eq_decide]
            have e2 : (x.s 2 (x.ret 0)).t.retired = x.t.retired := rfl
            rw [e2]
            omega
          rw [e]
          exact ⟨⟨_, rfl⟩, H2⟩
        · exact ⟨⟨_, by rw [decide_eq_false (fun hh => c3 hh.1)]⟩, H2⟩
      rintro v32 v33 g34 h35 ⟨⟨w, e⟩, H3⟩
      cases e
      try simp only [nilC, bsx, Nat.reduceAdd, Int.reduceLE, Int.reduceLT, Int.reduceToNat]
      refine ifB_dec (fun c3 => ?_) (fun c3 => ?_)
      · rw [if_pos c3] at k
        refine RunS.stR (i := 3) H3 rfl (U.lit rfl) fun h4 H4 => ?_
        have hfl2 := frl_s (x.s 2 (x.ret 0)) 3 1
        try simp only [nilC, bsx, Nat.reduceAdd, Int.reduceLE, Int.reduceLT, Int.reduceToNat, RunS.l H4]
        exact callV_fn (mCall_call H4 Args.none (by omega) (by omega) fun h5 b' o' _ _ H5 => k h5 (RunS.drp (RunS.none H5)))
      · rw [if_neg c3] at k
        try simp only [nilC, bsx, Nat.reduceAdd, Int.reduceLE, Int.reduceLT, Int.reduceToNat, RunS.l H3]
        exact callV_fn (mEnd_call H3 (U.lit rfl) U0 U0 (by omega) fun h5 b' o' _ _ H5 => k h5 (RunS.drp (RunS.none H5)))
  rw [if_neg c] at k
  refine ifB_dec (fun c => ?_) (fun c => ?_)
  · rw [if_pos c] at k
    refine callV_fn (rPlan H1 fun h2 H2 => pl15 ?_)
    try simp only [nilC, bsx, Nat.reduceAdd, Int.reduceLE, Int.reduceLT, Int.reduceToNat, RunS.c H2, RunS.l H2]
    refine callV_fn (plNode_call P (s64_iN _) (by decide) fun h3 o3 => ?_)
    have H3 := RunS.old H2 o3
    try simp only [nilC, bsx, Nat.reduceAdd, Int.reduceLE, Int.reduceLT, Int.reduceToNat, RunS.c H3, RunS.l H3]
    refine callV_fn (rStore H3 (node_iN P _ _) (B.g 0) O.st fun h4 H4 => ?_)
    exact RunS.stP H4 fun h5 H5 => k h5 (RunS.drp (RunS.none H5))
  rw [if_neg c] at k
  refine ifB_dec (fun c => ?_) (fun c => by omega)
  · refine callV_fn (rPlan H1 fun h2 H2 => pl15 ?_)
    try simp only [nilC, bsx, Nat.reduceAdd, Int.reduceLE, Int.reduceLT, Int.reduceToNat, RunS.c H2, RunS.l H2]
    refine callV_fn (plNode_call P (s64_iN _) (by decide) fun h3 o3 => ?_)
    have H3 := RunS.old H2 o3
    try simp only [nilC, bsx, Nat.reduceAdd, Int.reduceLE, Int.reduceLT, Int.reduceToNat, RunS.c H3, RunS.l H3]
    refine callV_fn (rStore H3 (node_iN P _ _) (B.g 1) O.st fun h4 H4 => ?_)
    exact RunS.stR (i := 3) H4 rfl U0 fun h5 H5 => RunS.stP H5 fun h6 H6 => k h6 (RunS.drp (RunS.none H6))
theorem RunS.feed (H : Sat h (RunS M T tv fo x R)) (k : ∀ q R', Sat h (fdS q x.m.b x.m.used * R') → (∀ h' u, Sat h' (fdS q x.m.b u * R') → Sat h' (RunS M T tv fo { x with m := Mac.feed x.m u } R)) → K (mP q) h) :
    CallH Tryz.prog 139 #[mP M] h K := mcFeed_call H fun q R' H1 re => k q R' H1 fun h' u H2 => re h' u H2
theorem miDraw_call (H : Sat h (RunS M T tv (some (b, o)) x R)) (O : Ok x) (hp : 4 ≤ x.f.pc ∧ x.f.pc ≤ 7) (k : ∀ h', Sat h' (RunS M T tv none (iDrawing x) R) → K (.tuple #[]) h') :
    CallH Tryz.prog 88 #[rV M T b o] h K := by
  refine call88 ?_
  unfold F88 g88 cf ce bd lP lI nP
  have B := RunS.fB H
  have P := RunS.pl H
  have hd := O.fr
  have r1 := RunS.ret H 1
  unfold iDrawing at k
  dsimp only at k
  have H1 := RunS.new H (.cells #[mP M, mP T, fP b o] 114); generalize h.push (.cells #[mP M, mP T, fP b o] 114) = h1 at *; generalize h.size = N at *
  try simp only [nilC, bsx, Nat.reduceAdd, Int.reduceLE, Int.reduceLT, Int.reduceToNat, RunS.l H1]
  refine callV_fn (rPlan H1 fun h2 H2 => pl15 ?_)
  refine callV_fn (plConf_call fun h3 o3 => cf7 ?_)
  have H3 := RunS.old H2 o3
  have H4 := RunS.new H3 (.cells #[.int .i64 0, .int .i64 0, .int .i64 0, .int .i64 0, .int .i64 0, .int .i64 0, .int .i64 0] 23)
  generalize h3.push (.cells #[.int .i64 0, .int .i64 0, .int .i64 0, .int .i64 0, .int .i64 0, .int .i64 0, .int .i64 0] 23) = h4 at *
  generalize h3.size = N2 at *
  refine st7 (stN_full (vs := cfc x.m.p.c) (RunS.loc H4) rfl (by simp [cfc, oneC]) fun h5 w => ?_)
  have H5 := RunS.wr H4 w.new w.old
  clear H1 H2 H3 H4 o3 w
  try simp +decide only [nilC, bsx, Nat.reduceAdd, Int.reduceLE, Int.reduceLT, Int.reduceToNat, rsx, g_s, g_s_ne, RunS.l2 H5, RunS.r H5, RunS.tc H5]
  refine ifB_dec (fun c => ?_) (fun c => ?_)
  · rw [if_pos c] at k
    refine callV_fn (rLoad H5 (by decide) O.st fun h6 H6 u6 => ?_)
    try simp only [nilC, bsx, Nat.reduceAdd, Int.reduceLE, Int.reduceLT, Int.reduceToNat]
    refine RunS.stR (i := 4) H6 rfl u6 fun h7 H7 => ?_
    try simp +decide only [nilC, bsx, Nat.reduceAdd, Int.reduceLE, Int.reduceLT, Int.reduceToNat, rsx, g_s, g_s_ne, RunS.l2 H7, RunS.r H7, B.len]
    refine callV_fn (RunS.feed H7 fun q R' HF re => ?_)
    try simp only [nilC, bsx, Nat.reduceAdd, Int.reduceLE, Int.reduceLT, Int.reduceToNat]
    refine callV_fn (tLeaves_call (s64_iN _) ?_)
    try simp only [nilC, bsx, Nat.reduceAdd, Int.reduceLE, Int.reduceLT, Int.reduceToNat]
    have hus : ((x.load 2).2.s 4 (x.load 2).1).m.used < 1099511627776 := by
      have e : ((x.load 2).2.s 4 (x.load 2).1).m.used = x.m.used := by
        show (x.m.load 2).2.used = x.m.used
        unfold Mac.load
        dsimp only
        have := (touch_mm x.m 2).2.2.2.1
        split <;> exact this
      rw [e]; exact O.us
    have hb := (fdS_step HF)
    obtain ⟨fa, fc, FF, _⟩ := hb
    refine callV_fn (fdNext_call HF hus (fun hn => ?_) (fun hn h8 H8 => ?_))
    · try simp only [nilC, bsx, Nat.reduceAdd, Int.reduceLE, Int.reduceLT, Int.reduceToNat]
      refine callV_fn (tLeaf_call (s64_iN _) ?_)
      try simp only [nilC, bsx, Nat.reduceAdd, Int.reduceLE, Int.reduceLT, Int.reduceToNat]
      refine RunS.stR (i := 5) H7 rfl (u64_U _) fun h9 H9 => RunS.stP H9 fun h10 H10 => k h10 ?_
      have e : (((x.load 2).2.s 4 (x.load 2).1).m.next (trLeaves (s64 (x.load 2).1))) = (0, ((x.load 2).2.s 4 (x.load 2).1).m) := by unfold Mac.next; rw [if_pos hn]
      rw [e]
      exact RunS.drp (RunS.drp (RunS.none H10))
    · try simp only [nilC, bsx, Nat.reduceAdd, Int.reduceLE, Int.reduceLT, Int.reduceToNat]
      refine callV_fn (tLeaf_call (s64_iN _) ?_)
      try simp only [nilC, bsx, Nat.reduceAdd, Int.reduceLE, Int.reduceLT, Int.reduceToNat]
      refine RunS.stR (i := 5) (re h8 _ H8) rfl (u64_U _) fun h9 H9 => RunS.stP H9 fun h10 H10 => k h10 ?_
      have e : (((x.load 2).2.s 4 (x.load 2).1).m.next (trLeaves (s64 (x.load 2).1))) = (drawn ((x.load 2).2.s 4 (x.load 2).1).m.b ((x.load 2).2.s 4 (x.load 2).1).m.used % trLeaves (s64 (x.load 2).1), Mac.feed ((x.load 2).2.s 4 (x.load 2).1).m (((x.load 2).2.s 4 (x.load 2).1).m.used + 1)) := by
        unfold Mac.next Mac.take; rw [if_neg (by omega)]; rfl
      rw [e]
      exact RunS.drp (RunS.drp (RunS.none H10))
  rw [if_neg c] at k
  refine ifB_dec (fun c => ?_) (fun c => ?_)
  · rw [if_pos c] at k
    exact callV_fn (mCallN H5 [x.f.g 5] rfl (one_U (B.g 5)) rfl (by omega) fun h6 b' o' _ _ H6 => k h6 (RunS.drp (RunS.drp (RunS.none H6))))
  rw [if_neg c] at k
  refine ifB_dec (fun c => ?_) (fun c => ?_)
  · rw [if_pos c] at k
    refine ifB_dec (fun c2 => ?_) (fun c2 => ?_)
    · rw [if_pos c2] at k
      refine callV_fn (pNew_call (s64_iN _) fun h6 o6 => ?_)
      have H6 := RunS.old H5 o6
      try simp only [nilC, bsx, Nat.reduceAdd, Int.reduceLE, Int.reduceLT, Int.reduceToNat, RunS.l2 H6, RunS.c H6]
      refine sizeH_mk rfl (elemH_mk rfl (elemH_mk rfl ?_))
      try simp only [nilC, bsx, Nat.reduceAdd, Int.reduceLE, Int.reduceLT, Int.reduceToNat, RunS.l2 H6, RunS.c H6]
      refine callV_fn (miKeep_call H6 (s := spNew (s64 (x.f.g 4))) fun h7 H7 => ?_)
      exact RunS.stP H7 fun h8 H8 => k h8 (RunS.drp (RunS.drp (RunS.none H8)))
    · rw [if_neg c2] at k
      refine RunS.stR (i := 3) H5 rfl (u64_U _) fun h6 H6 => RunS.stP H6 fun h7 H7 => ?_
      have O7 := RunS.loc H7
      have l5 : ∀ F : Value → Prop, ldH h7 ⟨N2, 5, none⟩ F = F (.int .i64 x.m.p.c.probes) := fun F => by unfold ldH; rw [cellAt_of O7]; rfl
      try simp +decide only [nilC, bsx, Nat.reduceAdd, Int.reduceLE, Int.reduceLT, Int.reduceToNat, rsx, g_s, g_s_ne, RunS.l2 H7, RunS.r H7, B.len, l5]
      refine ifB_dec (fun c3 => ?_) (fun c3 => ?_)
      · rw [if_pos c3] at k
        exact RunS.stP H7 fun h8 H8 => k h8 (RunS.drp (RunS.drp (RunS.none H8)))
      · rw [if_neg c3] at k
        exact k h7 (RunS.drp (RunS.drp (RunS.none H7)))
  rw [if_neg c] at k
  refine ifB_dec (fun c => ?_) (fun c => by omega)
  have O5 := RunS.loc H5
  have l3 : ∀ F : Value → Prop, ldH h5 ⟨N2, 3, none⟩ F = F (.int .i64 x.m.p.c.level) := fun F => by unfold ldH; rw [cellAt_of O5]; rfl
  try simp +decide only [nilC, bsx, Nat.reduceAdd, Int.reduceLE, Int.reduceLT, Int.reduceToNat, rsx, g_s, g_s_ne, RunS.l2 H5, RunS.r H5, l3]
  refine ifB_dec (fun c2 => ?_) (fun c2 => ?_)
  · rw [if_pos c2] at k
    refine callV_fn (mEnd_call H5 (U.lit rfl) U0 U0 (by omega) fun h6 b' o' _ st H6 => ?_)
    have e2 : cellAt h6 ⟨b, o + 4, none⟩ = some (.int .u64 (x.f.g 2)) := by
      have e : (((((x.s 7 1).s 8 0).s 9 0).pc 90).f).g 2 = x.f.g 2 := by try simp +decide only [nilC, bsx, Nat.reduceAdd, Int.reduceLE, Int.reduceLT, Int.reduceToNat, rsx, g_s, g_s_ne, B.len]
      rw [← e]
      exact st b o 4 _ rfl rfl
    have ld2 : ∀ F : Value → Prop, ldH h6 ⟨b, o + 4, none⟩ F = F (.int .u64 (x.f.g 2)) := fun F => by unfold ldH; rw [e2]
    try simp only [nilC, bsx, Nat.reduceAdd, Int.reduceLE, Int.reduceLT, Int.reduceToNat, RunS.l2 H6, ld2]
    refine callV_fn (rPushN H6 [x.f.g 2] rfl (one_U (B.g 2)) (by omega) ?_ fun h7 b'' o'' _ _ H7 => k h7 (RunS.drp (RunS.drp (RunS.none H7))))
    have l1 := frl_s x 7 1
    have l2 := frl_s (x.s 7 1) 8 0
    have l3 := frl_s ((x.s 7 1).s 8 0) 9 0
    have l4 := frl_pc (((x.s 7 1).s 8 0).s 9 0) 90
    show ((((((x.s 7 1).s 8 0).s 9 0).pc 90).t.fr) ++ [_]).length < _
    rw [List.length_append]
    simp only [List.length_singleton]
    omega
  · rw [if_neg c2] at k
    refine callV_fn (rCas H5 (by decide) (u64_U _) O.st fun h6 H6 => ?_)
    try simp only [nilC, bsx, Nat.reduceAdd, Int.reduceLE, Int.reduceLT, Int.reduceToNat]
    exact RunS.stR (i := 3) H6 rfl U0 fun h7 H7 => RunS.stP H7 fun h8 H8 => k h8 (RunS.drp (RunS.drp (RunS.none H8)))
theorem miFind_call (H : Sat h (RunS M T tv (some (b, o)) x R)) (O : Ok x) (hp : 8 ≤ x.f.pc ∧ x.f.pc ≤ 9) (k : ∀ h', Sat h' (RunS M T tv none (iFind x) R) → K (.tuple #[]) h') :
    CallH Tryz.prog 89 #[rV M T b o] h K := by
  refine call89 ?_
  unfold F89 g89 cf ce bd lP lI nP
  have B := RunS.fB H
  have P := RunS.pl H
  have hd := O.fr
  unfold iFind at k
  dsimp only at k
  have H1 := RunS.new H (.cells #[mP M, mP T, fP b o] 114); generalize h.push (.cells #[mP M, mP T, fP b o] 114) = h1 at *; generalize h.size = N at *
  try simp only [nilC, bsx, Nat.reduceAdd, Int.reduceLE, Int.reduceLT, Int.reduceToNat, RunS.l H1]
  refine callV_fn (miSpan_call H1 fun h2 H2 => ?_)
  try simp only [nilC, bsx, Nat.reduceAdd, Int.reduceLE, Int.reduceLT, Int.reduceToNat]
  refine sizeH_mk rfl (elemH_mk rfl (elemH_mk rfl ?_))
  have H3 := RunS.new H2 (.cells #[.int .i64 0, .int .i64 0] 193)
  generalize h2.push (.cells #[.int .i64 0, .int .i64 0] 193) = h3 at *
  generalize h2.size = N2 at *
  refine stR (RunS.loc H3) rfl trivial fun h4 w4 => stR w4.new rfl trivial fun h5 w5 => ?_
  have H5 := RunS.wr (RunS.wr H3 w4.new w4.old) w5.new w5.old
  clear H1 H2 H3 w4 w5
  generalize hs : iSpan x = s at *
  have O5 := RunS.loc H5
  have l0 : ∀ F : Value → Prop, ldH h5 ⟨N2, 0, none⟩ F = F (.int .i64 s.lo) := fun F => by unfold ldH; rw [cellAt_of O5]; rfl
  have l1 : ∀ F : Value → Prop, ldH h5 ⟨N2, 1, none⟩ F = F (.int .i64 s.hi) := fun F => by unfold ldH; rw [cellAt_of O5]; rfl
  try simp +decide only [nilC, bsx, Nat.reduceAdd, Int.reduceLE, Int.reduceLT, Int.reduceToNat, rsx, g_s, g_s_ne, RunS.l2 H5, RunS.r H5, RunS.tc H5, l0, l1]
  refine ifB_dec (fun c => ?_) (fun c => ?_)
  · rw [if_pos c] at k
    refine callV_fn (pDone_call fun h6 o6 => ?_)
    have H6 := RunS.old H5 o6
    have O6 := RunS.loc H6
    have m0 : ∀ F : Value → Prop, ldH h6 ⟨N2, 0, none⟩ F = F (.int .i64 s.lo) := fun F => by unfold ldH; rw [cellAt_of O6]; rfl
    have m1 : ∀ F : Value → Prop, ldH h6 ⟨N2, 1, none⟩ F = F (.int .i64 s.hi) := fun F => by unfold ldH; rw [cellAt_of O6]; rfl
    try simp +decide only [nilC, bsx, Nat.reduceAdd, Int.reduceLE, Int.reduceLT, Int.reduceToNat, rsx, g_s, g_s_ne, RunS.l2 H6, RunS.r H6, m0, m1]
    refine ifB_mk (fun c2 => ?_) (fun c2 => ?_)
    · rw [if_pos c2] at k
      exact RunS.stP H6 fun h7 H7 => k h7 (RunS.drp (RunS.drp (RunS.none H7)))
    · rw [if_neg (by rw [c2]; simp)] at k
      refine callV_fn (pMid_call fun h7 o7 => ?_)
      have H7 := RunS.old H6 o7
      have hm := mid_rng s
      try simp only [nilC, bsx, Nat.reduceAdd, Int.reduceLE, Int.reduceLT, Int.reduceToNat, RunS.l2 H7]
      refine callV_fn (miHere_call H7 ⟨by omega, by omega⟩ fun h8 H8 => ?_)
      try simp only [nilC, bsx, Nat.reduceAdd, Int.reduceLE, Int.reduceLT, Int.reduceToNat, RunS.l2 H8]
      exact callV_fn (mCallN H8 [iHere x s.mid] rfl (one_U (u64_U _)) rfl (by omega) fun h9 b' o' _ _ H9 => k h9 (RunS.drp (RunS.drp (RunS.none H9))))
  rw [if_neg c] at k
  refine ifB_dec (fun c => ?_) (fun c => by omega)
  refine callV_fn (pCut_call fun h6 o6 => ?_)
  have H6 := RunS.old H5 o6
  try simp only [nilC, bsx, Nat.reduceAdd, Int.reduceLE, Int.reduceLT, Int.reduceToNat, RunS.l2 H6]
  refine sizeH_mk rfl (elemH_mk rfl (elemH_mk rfl ?_))
  try simp only [nilC, bsx, Nat.reduceAdd, Int.reduceLE, Int.reduceLT, Int.reduceToNat, RunS.l2 H6]
  refine callV_fn (miKeep_call H6 fun h7 H7 => ?_)
  try simp only [nilC, bsx, Nat.reduceAdd, Int.reduceLE, Int.reduceLT, Int.reduceToNat, RunS.l2 H7]
  exact RunS.stP H7 fun h8 H8 => k h8 (RunS.drp (RunS.drp (RunS.none H8)))
theorem miPut_call (H : Sat h (RunS M T tv (some (b, o)) x R)) (O : Ok x) (k : ∀ h', Sat h' (RunS M T tv none (iPut x) R) → K (.tuple #[]) h') :
    CallH Tryz.prog 90 #[rV M T b o] h K := by
  refine call90 ?_
  unfold F90 g90 cf ce bd lP lI nP
  have B := RunS.fB H
  have P := RunS.pl H
  have hd := O.fr
  have r0 := RunS.ret H 0
  have r1 := RunS.ret H 1
  unfold iPut at k
  dsimp only at k
  have H1 := RunS.new H (.cells #[mP M, mP T, fP b o] 114); generalize h.push (.cells #[mP M, mP T, fP b o] 114) = h1 at *; generalize h.size = N at *
  try simp only [nilC, bsx, Nat.reduceAdd, Int.reduceLE, Int.reduceLT, Int.reduceToNat, RunS.l H1]
  refine callV_fn (miSpan_call H1 fun h2 H2 => ?_)
  try simp only [nilC, bsx, Nat.reduceAdd, Int.reduceLE, Int.reduceLT, Int.reduceToNat]
  refine sizeH_mk rfl (elemH_mk rfl (elemH_mk rfl ?_))
  try simp only [nilC, bsx, Nat.reduceAdd, Int.reduceLE, Int.reduceLT, Int.reduceToNat, RunS.l H2]
  have hsl : iN (iSpan x).lo := by
    have hg := B.g 6
    have g0 := hg.1
    have g1 := hg.2
    unfold iSpan
    constructor <;> simp only <;> omega
  refine callV_fn (miHere_call H2 hsl fun h3 H3 => ?_)
  try simp only [nilC, bsx, Nat.reduceAdd, Int.reduceLE, Int.reduceLT, Int.reduceToNat, RunS.l H3]
  refine callV_fn (mWord_call 3 rfl H3 fun h4 H4 => ?_)
  clear H1 H2 H3
  have hpl : U (iHere x (iSpan x).lo) := u64_U _
  generalize iHere x (iSpan x).lo = place at *
  try simp +decide only [nilC, bsx, Nat.reduceAdd, Int.reduceLE, Int.reduceLT, Int.reduceToNat, rsx, g_s, g_s_ne, RunS.l H4, RunS.r H4, RunS.tc H4]
  refine ifB_dec (fun c => ?_) (fun c => ?_)
  · rw [if_pos c] at k
    exact callV_fn (mCallN H4 [place] rfl (one_U hpl) rfl (by omega) fun h5 b' o' _ _ H5 => k h5 (RunS.drp (RunS.none H5)))
  rw [if_neg c] at k
  refine ifB_dec (fun c => ?_) (fun c => ?_)
  · rw [if_pos c] at k
    refine ifB_dec (fun c2 => ?_) (fun c2 => ?_)
    · rw [if_pos c2] at k
      exact RunS.stR (i := 3) H4 rfl U0 fun h5 H5 => RunS.stP H5 fun h6 H6 => k h6 (RunS.drp (RunS.none H6))
    · rw [if_neg c2] at k
      refine RunS.stR (i := 3) H4 rfl r0 fun h5 H5 => ?_
      try simp +decide only [nilC, bsx, Nat.reduceAdd, Int.reduceLE, Int.reduceLT, Int.reduceToNat, rsx, g_s, g_s_ne, RunS.l H5, RunS.r H5, B.len]
      refine callV_fn (rPlan H5 fun h6 H6 => pl15 ?_)
      try simp +decide only [nilC, bsx, Nat.reduceAdd, Int.reduceLE, Int.reduceLT, Int.reduceToNat, rsx, g_s, g_s_ne, RunS.l H6, RunS.c H6, B.len]
      refine callV_fn (plNode_call P (s64_iN _) (by decide) fun h7 o7 => ?_)
      have H7 := RunS.old H6 o7
      try simp only [nilC, bsx, Nat.reduceAdd, Int.reduceLE, Int.reduceLT, Int.reduceToNat, RunS.l H7]
      refine callV_fn (mWord_call 3 rfl H7 fun h8 H8 => ?_)
      try simp +decide only [nilC, bsx, Nat.reduceAdd, Int.reduceLE, Int.reduceLT, Int.reduceToNat, rsx, g_s, g_s_ne, RunS.l H8, B.len]
      refine callV_fn (wPtr_call r0 ?_)
      try simp +decide only [nilC, bsx, Nat.reduceAdd, Int.reduceLE, Int.reduceLT, Int.reduceToNat, rsx, g_s, g_s_ne, RunS.l H8]
      refine callV_fn (rStore H8 (node_iN P _ _) (wptr_U _) O.st fun h9 H9 => ?_)
      refine RunS.stP H9 fun h10 H10 => ?_
      refine ifB_dec (fun c3 => ?_) (fun c3 => ?_)
      · rw [if_pos c3] at k
        exact RunS.stP H10 fun h11 H11 => k h11 (RunS.drp (RunS.none H11))
      · rw [if_neg c3] at k
        exact k h10 (RunS.drp (RunS.none H10))
  rw [if_neg c] at k
  refine ifB_dec (fun c => ?_) (fun c => ?_)
  · rw [if_pos c] at k
    refine callV_fn (wMark_call (B.g 3) ?_)
    try simp +decide only [nilC, bsx, Nat.reduceAdd, Int.reduceLE, Int.reduceLT, Int.reduceToNat, rsx, g_s, g_s_ne, RunS.al H4]
    refine callV_fn (mSwing_call H4 (B.g 3) O.st fun h5 H5 => ?_)
    try simp +decide only [nilC, bsx, Nat.reduceAdd, Int.reduceLE, Int.reduceLT, Int.reduceToNat, rsx, g_s, g_s_ne, RunS.al H5]
    exact callV_fn (miDone_call H5 (show x.t.fr.length < _ by omega) fun h6 H6 => k h6 (RunS.drp H6))
  have e2 : Int.fdiv place 2 = place / 2 := fdiv_pos (by omega)
  have e3 : Int.tdiv place 2 = place / 2 := Int.tdiv_eq_ediv_of_nonneg hpl.1
  have hu : U (place / 2) := ⟨by have := hpl.1; omega, by have := hpl.2; have := hpl.1; omega⟩
  rw [if_neg c] at k
  refine ifB_dec (fun c => ?_) (fun c => ?_)
  · rw [if_pos c] at k
    try simp only [nilC, bsx, Nat.reduceAdd, Int.reduceLE, Int.reduceLT, Int.reduceToNat, e2, e3, hu.u64]
    try refine ⟨by decide, ?_⟩
    exact callV_fn (mCallN H4 [place / 2] rfl (one_U hu) rfl (by omega) fun h5 b' o' _ _ H5 => k h5 (RunS.drp (RunS.none H5)))
  rw [if_neg c] at k
  refine ifB_dec (fun c => ?_) (fun c => ?_)
  · rw [if_pos c] at k
    refine ifB_dec (fun c2 => ?_) (fun c2 => ?_)
    · rw [if_pos c2] at k
      exact callV_fn (miDone_call H4 (by omega) fun h5 H5 => k h5 (RunS.drp H5))
    · rw [if_neg c2] at k
      refine callV_fn (mAt_call H4 fun h5 H5 => ?_)
      try simp +decide only [nilC, bsx, Nat.reduceAdd, Int.reduceLE, Int.reduceLT, Int.reduceToNat, rsx, g_s, g_s_ne, RunS.al H5]
      refine callV_fn (wMark_call (B.g 3) ?_)
      try simp +decide only [nilC, bsx, Nat.reduceAdd, Int.reduceLE, Int.reduceLT, Int.reduceToNat, rsx, g_s, g_s_ne, RunS.al H5]
      refine callV_fn (wNext_call (B.g 3) ?_)
      try simp +decide only [nilC, bsx, Nat.reduceAdd, Int.reduceLE, Int.reduceLT, Int.reduceToNat, rsx, g_s, g_s_ne, RunS.al H5, e2, e3, hu.u64]
      refine callV_fn (mAt_call H5 fun h6 H6 => ?_)
      try simp +decide only [nilC, bsx, Nat.reduceAdd, Int.reduceLE, Int.reduceLT, Int.reduceToNat, rsx, g_s, g_s_ne, RunS.al H6, e2, e3, hu.u64]
      refine callV_fn (rDcss H6 (at_iN P _) (at_iN P _) wNext_U O.st fun h7 H7 => ?_)
      try simp +decide only [nilC, bsx, Nat.reduceAdd, Int.reduceLE, Int.reduceLT, Int.reduceToNat, rsx, g_s, g_s_ne, RunS.al H7]
      exact callV_fn (miDone_call H7 (show x.t.fr.length < _ by omega) fun h8 H8 => k h8 (RunS.drp H8))
  rw [if_neg c] at k
  exact k h4 (RunS.drp (RunS.none H4))
end
end
section
set_option maxRecDepth 100000

end
section
open Mod
def Thr.setPl (t : Thr) (p s w : List Int) : Thr := { t with pred := p, succ := s, word := w }
section
variable {K : Value → Heap → Prop} {h : Heap} {M T b o N : Nat} {tv : Value} {fo : Option (Nat × Nat)} {x : Run} {R : Hp}
end
end
section
open Mod
section
variable {K : Value → Heap → Prop} {h : Heap} {M T b o N : Nat} {tv : Value} {fo : Option (Nat × Nat)} {x : Run} {R : Hp}
end
end
section
open Mod
section
variable {K : Value → Heap → Prop} {h : Heap} {M T b o N : Nat} {tv : Value} {fo : Option (Nat × Nat)} {x : Run} {R : Hp}
end
end
section
open Mod
section
variable {K : Value → Heap → Prop} {h : Heap} {M T b o N : Nat} {tv : Value} {fo : Option (Nat × Nat)} {x : Run} {R : Hp}
end
end
section
set_option maxRecDepth 100000

end
section
open Mod
section
variable {K : Value → Heap → Prop} {h : Heap} {M T b o N : Nat} {tv : Value} {fo : Option (Nat × Nat)} {x : Run} {R : Hp}
end
end
section
open Mod
theorem and1 {n : Int} (h : U n) : Mod.u64 ((((BitVec.ofInt 64 n) &&& (BitVec.ofInt 64 1)).toNat : Nat) : Int) = n % 2 := by
  obtain ⟨h0, h1⟩ := h
  have e : (BitVec.ofInt 64 n).toNat = n.toNat := by
    rw [BitVec.toNat_ofInt]
    omega
  rw [BitVec.toNat_and, e, show (BitVec.ofInt 64 1).toNat = 1 from rfl, Nat.and_one_is_mod]
  unfold Mod.u64
  omega
section
variable {K : Value → Heap → Prop} {h : Heap} {M T b o N : Nat} {tv : Value} {fo : Option (Nat × Nat)} {x : Run} {R : Hp}
end
end
section
open Mod
section
variable {K : Value → Heap → Prop} {h : Heap} {M T b o N : Nat} {tv : Value} {fo : Option (Nat × Nat)} {x : Run} {R : Hp}
theorem three_U {u v w : Int} (h1 : U u) (h2 : U v) (h3 : U w) : ∀ y ∈ [u, v, w], U y := by
  intro y hy
  simp only [List.mem_cons, List.not_mem_nil, or_false] at hy
  rcases hy with rfl | rfl | rfl
  · exact h1
  · exact h2
  · exact h3
theorem miStep_call (H : Sat h (RunS M T tv (some (b, o)) x R)) (O : Ok x) (k : ∀ h', Sat h' (RunS M T tv none (iStep x) R) → K (.tuple #[]) h') :
    CallH Tryz.prog 51 #[rV M T b o] h K := by
  refine call51 ?_
  unfold F51 g51 cf lP lI nP
  have hp := O.pc
  unfold iStep at k
  have H1 := RunS.new H (.cells #[mP M, mP T, fP b o] 114); generalize h.push (.cells #[mP M, mP T, fP b o] 114) = h1 at *; generalize h.size = N at *
  try simp +decide only [nilC, bsx, Nat.reduceAdd, Int.reduceLE, Int.reduceLT, Int.reduceToNat, rsx, g_s, g_s_ne, RunS.al H1]
  refine ifB_dec (fun c => ?_) (fun c => ?_)
  · rw [if_pos c] at k
    exact callV_fn (miTake_call H1 O c fun h2 H2 => k h2 (RunS.drp H2))
  rw [if_neg c] at k
  refine ifB_dec (fun c => ?_) (fun c => ?_)
  · rw [if_pos c] at k
    exact callV_fn (miDraw_call H1 O (by omega) fun h2 H2 => k h2 (RunS.drp H2))
  rw [if_neg c] at k
  refine ifB_dec (fun c => ?_) (fun c => ?_)
  · rw [if_pos c] at k
    exact callV_fn (miFind_call H1 O (by omega) fun h2 H2 => k h2 (RunS.drp H2))
  rw [if_neg c] at k
  exact callV_fn (miPut_call H1 O fun h2 H2 => k h2 (RunS.drp H2))
theorem mrLook_call (H : Sat h (RunS M T tv (some (b, o)) x R)) (O : Ok x) (k : ∀ h', Sat h' (RunS M T tv none (rLook x) R) → K (.tuple #[]) h') :
    CallH Tryz.prog 94 #[rV M T b o] h K := by
  refine call94 ?_
  unfold F94 g94 cf ce bd lP lI nP
  have B := RunS.fB H
  have P := RunS.pl H
  have hd := O.fr
  have r0 := RunS.ret H 0
  unfold rLook at k
  dsimp only at k
  have H1 := RunS.new H (.cells #[mP M, mP T, fP b o] 115); generalize h.push (.cells #[mP M, mP T, fP b o] 115) = h1 at *; generalize h.size = N at *
  try simp +decide only [nilC, bsx, Nat.reduceAdd, Int.reduceLE, Int.reduceLT, Int.reduceToNat, rsx, g_s, g_s_ne, RunS.al H1]
  refine callV_fn (mWord_call 0 rfl H1 fun h2 H2 => ?_)
  try simp +decide only [nilC, bsx, Nat.reduceAdd, Int.reduceLE, Int.reduceLT, Int.reduceToNat, rsx, g_s, g_s_ne, RunS.al H2]
  refine ifB_dec (fun c => ?_) (fun c => ?_)
  · rw [if_pos c] at k
    refine callV_fn (mAt_call H2 fun h3 H3 => ?_)
    try simp +decide only [nilC, bsx, Nat.reduceAdd, Int.reduceLE, Int.reduceLT, Int.reduceToNat, rsx, g_s, g_s_ne, RunS.al H3]
    exact callV_fn (mCallN H3 [0, u64 (x.at 1)] rfl (two_U U0 (u64_U _)) rfl (by omega) fun h4 b' o' _ _ H4 => k h4 (RunS.drp (RunS.none H4)))
  rw [if_neg c] at k
  refine ifB_dec (fun c => ?_) (fun c => ?_)
  · rw [if_pos c] at k
    refine RunS.stR (i := 0) H2 rfl r0 fun h3 H3 => RunS.stP H3 fun h4 H4 => ?_
    have l1 := frl_s x 0 (x.ret 0)
    have l2 := frl_pc (x.s 0 (x.ret 0)) 2
    try simp +decide only [nilC, bsx, Nat.reduceAdd, Int.reduceLE, Int.reduceLT, Int.reduceToNat, rsx, g_s, g_s_ne, RunS.al H4]
    refine callV_fn (mWord_call 0 rfl H4 fun h5 H5 => ?_)
    try simp +decide only [nilC, bsx, Nat.reduceAdd, Int.reduceLE, Int.reduceLT, Int.reduceToNat, rsx, g_s, g_s_ne, RunS.al H5, B.len]
    refine callV_fn (wMark_call r0 ?_)
    try simp +decide only [nilC, bsx, Nat.reduceAdd, Int.reduceLE, Int.reduceLT, Int.reduceToNat, rsx, g_s, g_s_ne, RunS.al H5]
    refine ifB_mk (fun c2 => ?_) (fun c2 => ?_)
    · rw [if_pos c2] at k
      exact callV_fn (mCallN H5 [1] rfl (one_U (U.lit rfl)) rfl (by omega) fun h6 b' o' _ _ H6 => k h6 (RunS.drp (RunS.none H6)))
    · rw [if_neg (by rw [c2]; simp)] at k
      refine callV_fn (mWord_call 0 rfl H5 fun h6 H6 => ?_)
      try simp +decide only [nilC, bsx, Nat.reduceAdd, Int.reduceLE, Int.reduceLT, Int.reduceToNat, rsx, g_s, g_s_ne, RunS.al H6, B.len]
      refine callV_fn (wPtr_call r0 ?_)
      try simp +decide only [nilC, bsx, Nat.reduceAdd, Int.reduceLE, Int.reduceLT, Int.reduceToNat, rsx, g_s, g_s_ne, RunS.al H6]
      refine ifB_dec (fun c3 => ?_) (fun c3 => ?_)
      · rw [if_pos c3] at k
        exact callV_fn (mEnd_call H6 (U.lit rfl) U0 U0 (by omega) fun h7 b' o' _ _ H7 => k h7 (RunS.drp (RunS.none H7)))
      · rw [if_neg c3] at k
        exact k h6 (RunS.drp (RunS.none H6))
  rw [if_neg c] at k
  refine ifB_dec (fun c => ?_) (fun c => ?_)
  · rw [if_pos c] at k
    refine callV_fn (mNode_call H2 (B.g 0) (by decide) fun h3 H3 => ?_)
    try simp +decide only [nilC, bsx, Nat.reduceAdd, Int.reduceLE, Int.reduceLT, Int.reduceToNat, rsx, g_s, g_s_ne, RunS.al H3]
    refine callV_fn (rLoad H3 (node_iN P _ _) O.st fun h4 H4 u4 => ?_)
    try simp +decide only [nilC, bsx, Nat.reduceAdd, Int.reduceLE, Int.reduceLT, Int.reduceToNat, rsx, g_s, g_s_ne, RunS.al H4]
    exact RunS.stR (i := 1) H4 rfl u4 fun h5 H5 => RunS.stP H5 fun h6 H6 => k h6 (RunS.drp (RunS.none H6))
  rw [if_neg c] at k
  refine ifB_dec (fun c => ?_) (fun c => ?_)
  · rw [if_pos c] at k
    refine callV_fn (mNode_call H2 (B.g 0) (by decide) fun h3 H3 => ?_)
    try simp +decide only [nilC, bsx, Nat.reduceAdd, Int.reduceLE, Int.reduceLT, Int.reduceToNat, rsx, g_s, g_s_ne, RunS.al H3]
    refine callV_fn (rLoad H3 (node_iN P _ _) O.st fun h4 H4 u4 => ?_)
    try simp +decide only [nilC, bsx, Nat.reduceAdd, Int.reduceLE, Int.reduceLT, Int.reduceToNat, rsx, g_s, g_s_ne, RunS.al H4]
    refine RunS.stR (i := 2) H4 rfl u4 fun h5 H5 => RunS.stP H5 fun h6 H6 => ?_
    have l1 := frl_s (x.load (x.nodeW (x.f.g 0) 1)).2 2 (x.load (x.nodeW (x.f.g 0) 1)).1
    have l2 := frl_pc ((x.load (x.nodeW (x.f.g 0) 1)).2.s 2 (x.load (x.nodeW (x.f.g 0) 1)).1) 4
    rw [t_load] at l1
    try simp +decide only [nilC, bsx, Nat.reduceAdd, Int.reduceLE, Int.reduceLT, Int.reduceToNat, rsx, g_s, g_s_ne, RunS.al H6, B.len]
    refine ifB_dec (fun c2 => ?_) (fun c2 => ?_)
    · rw [if_pos c2] at k
      exact callV_fn (mEnd_call H6 (U.lit rfl) (B.g 1) u4 (by omega) fun h7 b' o' _ _ H7 => k h7 (RunS.drp (RunS.none H7)))
    · rw [if_neg c2] at k
      exact k h6 (RunS.drp (RunS.none H6))
  rw [if_neg c] at k
  exact k h2 (RunS.drp (RunS.none H2))
theorem mrStep_call (H : Sat h (RunS M T tv (some (b, o)) x R)) (O : Ok x) (k : ∀ h', Sat h' (RunS M T tv none (rStep x) R) → K (.tuple #[]) h') :
    CallH Tryz.prog 52 #[rV M T b o] h K := by
  refine call52 ?_
  unfold F52 g52 cf ce bd lP lI nP
  have B := RunS.fB H
  have P := RunS.pl H
  have hd := O.fr
  unfold rStep at k
  dsimp only at k
  have H1 := RunS.new H (.cells #[mP M, mP T, fP b o] 115); generalize h.push (.cells #[mP M, mP T, fP b o] 115) = h1 at *; generalize h.size = N at *
  try simp +decide only [nilC, bsx, Nat.reduceAdd, Int.reduceLE, Int.reduceLT, Int.reduceToNat, rsx, g_s, g_s_ne, RunS.al H1]
  refine callV_fn (mWord_call 0 rfl H1 fun h2 H2 => ?_)
  try simp +decide only [nilC, bsx, Nat.reduceAdd, Int.reduceLE, Int.reduceLT, Int.reduceToNat, rsx, g_s, g_s_ne, RunS.al H2]
  refine ifB_dec (fun c => ?_) (fun c => ?_)
  · rw [if_pos c] at k
    refine callV_fn (mNode_call H2 (B.g 0) (by decide) fun h3 H3 => ?_)
    try simp +decide only [nilC, bsx, Nat.reduceAdd, Int.reduceLE, Int.reduceLT, Int.reduceToNat, rsx, g_s, g_s_ne, RunS.al H3]
    refine callV_fn (rLoad H3 (node_iN P _ _) O.st fun h4 H4 u4 => ?_)
    try simp +decide only [nilC, bsx, Nat.reduceAdd, Int.reduceLE, Int.reduceLT, Int.reduceToNat, rsx, g_s, g_s_ne, RunS.al H4]
    exact RunS.stR (i := 3) H4 rfl u4 fun h5 H5 => RunS.stP H5 fun h6 H6 => k h6 (RunS.drp (RunS.none H6))
  rw [if_neg c] at k
  refine ifB_dec (fun c => ?_) (fun c => ?_)
  · rw [if_pos c] at k
    refine RunS.stP H2 fun h3 H3 => ?_
    have l1 := frl_pc x 0
    try simp +decide only [nilC, bsx, Nat.reduceAdd, Int.reduceLE, Int.reduceLT, Int.reduceToNat, rsx, g_s, g_s_ne, RunS.al H3]
    refine callV_fn (mSwing_call H3 (B.g 0) O.st fun h4 H4 => ?_)
    try simp +decide only [nilC, bsx, Nat.reduceAdd, Int.reduceLE, Int.reduceLT, Int.reduceToNat, rsx, g_s, g_s_ne, RunS.al H4]
    refine ifB_mk (fun c2 => ?_) (fun c2 => ?_)
    · rw [if_pos c2] at k
      exact callV_fn (mCallN H4 [1] rfl (one_U (U.lit rfl)) rfl (show (x.pc 0).t.fr.length < _ by omega) fun h6 b' o' _ _ H6 => k h6 (RunS.drp (RunS.none H6)))
    · rw [if_neg (by rw [c2]; simp)] at k
      exact k h4 (RunS.drp (RunS.none H4))
  rw [if_neg c] at k
  refine ifB_dec (fun c => ?_) (fun c => ?_)
  · rw [if_pos c] at k
    refine callV_fn (wPtr_call (B.g 0) ?_)
    try simp +decide only [nilC, bsx, Nat.reduceAdd, Int.reduceLE, Int.reduceLT, Int.reduceToNat, rsx, g_s, g_s_ne, RunS.al H2]
    exact callV_fn (mCallN H2 [wptr (x.f.g 0)] rfl (one_U (wptr_U _)) rfl (by omega) fun h6 b' o' _ _ H6 => k h6 (by rw [u64_wptr]; exact RunS.drp (RunS.none H6)))
  rw [if_neg c] at k
  refine ifB_dec (fun c => ?_) (fun c => ?_)
  · rw [if_pos c] at k
    exact callV_fn (mEnd_call H2 (U.lit rfl) (B.g 1) (B.g 2) (by omega) fun h7 b' o' _ _ H7 => k h7 (RunS.drp (RunS.none H7)))
  rw [if_neg c] at k
  exact callV_fn (mrLook_call H2 O fun h3 H3 => k h3 (RunS.drp H3))
theorem mcWash_call (H : Sat h (RunS M T tv (some (b, o)) x R)) (O : Ok x) (k : ∀ h', Sat h' (RunS M T tv none (cWash x) R) → K (.tuple #[]) h') :
    CallH Tryz.prog 97 #[rV M T b o] h K := by
  refine call97 ?_
  unfold F97 g97 cf ce bd lP nP
  have B := RunS.fB H
  have P := RunS.pl H
  unfold cWash at k
  dsimp only at k
  have H1 := RunS.new H (.cells #[mP M, mP T, fP b o] 116); generalize h.push (.cells #[mP M, mP T, fP b o] 116) = h1 at *; generalize h.size = N at *
  try simp +decide only [nilC, bsx, Nat.reduceAdd, Int.reduceLE, Int.reduceLT, Int.reduceToNat, rsx, g_s, g_s_ne, RunS.al H1]
  refine callV_fn (mWord_call 1 rfl H1 fun h2 H2 => ?_)
  try simp +decide only [nilC, bsx, Nat.reduceAdd, Int.reduceLE, Int.reduceLT, Int.reduceToNat, rsx, g_s, g_s_ne, RunS.al H2]
  refine RunS.stP H2 fun h3 H3 => ?_
  try simp +decide only [nilC, bsx, Nat.reduceAdd, Int.reduceLE, Int.reduceLT, Int.reduceToNat, rsx, g_s, g_s_ne, RunS.al H3]
  refine callV_fn (wPtr_call (B.g 1) ?_)
  try simp +decide only [nilC, bsx, Nat.reduceAdd, Int.reduceLE, Int.reduceLT, Int.reduceToNat, rsx, g_s, g_s_ne, RunS.al H3]
  refine callV_fn (mSwing_call H3 (B.g 1) O.st fun h4 H4 => ?_)
  try simp +decide only [nilC, bsx, Nat.reduceAdd, Int.reduceLE, Int.reduceLT, Int.reduceToNat, rsx, g_s, g_s_ne, RunS.al H4]
  refine ifB_mk (fun c2 => ?_) (fun c2 => ?_)
  · rw [if_pos c2] at k
    try simp +decide only [nilC, bsx, Nat.reduceAdd, Int.reduceLE, Int.reduceLT, Int.reduceToNat, rsx, g_s, g_s_ne, RunS.al H4]
    exact callV_fn (rPop H4 Args.none (by omega) fun h5 H5 => k h5 (RunS.drp H5))
  · rw [if_neg (by rw [c2]; simp)] at k
    exact k h4 (RunS.drp (RunS.none H4))
theorem mcHere_call (H : Sat h (RunS M T tv (some (b, o)) x R)) (O : Ok x) (k : ∀ h', Sat h' (RunS M T tv none (cHere x) R) → K (.tuple #[]) h') :
    CallH Tryz.prog 98 #[rV M T b o] h K := by
  refine call98 ?_
  unfold F98 g98 cf bd lP lI nP
  have B := RunS.fB H
  have P := RunS.pl H
  have hd := O.fr
  have r0 := RunS.ret H 0
  have r1 := RunS.ret H 1
  unfold cHere at k
  dsimp only at k
  have H1 := RunS.new H (.cells #[mP M, mP T, fP b o] 116); generalize h.push (.cells #[mP M, mP T, fP b o] 116) = h1 at *; generalize h.size = N at *
  try simp +decide only [nilC, bsx, Nat.reduceAdd, Int.reduceLE, Int.reduceLT, Int.reduceToNat, rsx, g_s, g_s_ne, RunS.al H1]
  refine ifB_dec (fun c => ?_) (fun c => ?_)
  · rw [if_pos c] at k
    exact callV_fn (mCallN H1 [x.f.g 0] rfl (one_U (B.g 0)) rfl (by omega) fun h4 b' o' _ _ H4 => k h4 (RunS.drp (RunS.none H4)))
  rw [if_neg c] at k
  refine ifB_dec (fun c => ?_) (fun c => ?_)
  · rw [if_pos c] at k
    refine RunS.stR (i := 1) H1 rfl r0 fun h2 H2 => ?_
    try simp +decide only [nilC, bsx, Nat.reduceAdd, Int.reduceLE, Int.reduceLT, Int.reduceToNat, rsx, g_s, g_s_ne, RunS.al H2]
    refine RunS.stR (i := 2) H2 rfl r1 fun h3 H3 => RunS.stP H3 fun h4 H4 => ?_
    try simp +decide only [nilC, bsx, Nat.reduceAdd, Int.reduceLE, Int.reduceLT, Int.reduceToNat, rsx, g_s, g_s_ne, RunS.al H4]
    refine callV_fn (mWord_call 1 rfl H4 fun h5 H5 => ?_)
    try simp +decide only [nilC, bsx, Nat.reduceAdd, Int.reduceLE, Int.reduceLT, Int.reduceToNat, rsx, g_s, g_s_ne, RunS.al H5, B.len]
    refine callV_fn (wMark_call r0 ?_)
    try simp +decide only [nilC, bsx, Nat.reduceAdd, Int.reduceLE, Int.reduceLT, Int.reduceToNat, rsx, g_s, g_s_ne, RunS.al H5]
    refine ifB_mk (fun c2 => ?_) (fun c2 => ?_)
    · rw [if_neg (by simpa using c2)] at k
      exact callV_fn (rPop H5 Args.none (by omega) fun h6 H6 => k h6 (RunS.drp H6))
    · rw [if_pos (by simpa using c2)] at k
      exact k h5 (RunS.drp (RunS.none H5))
  rw [if_neg c] at k
  refine ifB_dec (fun c => ?_) (fun c => ?_)
  · rw [if_pos c] at k
    refine RunS.stP H1 fun h2 H2 => ?_
    try simp +decide only [nilC, bsx, Nat.reduceAdd, Int.reduceLE, Int.reduceLT, Int.reduceToNat, rsx, g_s, g_s_ne, RunS.al H2]
    refine callV_fn (rLoad H2 (by decide) O.st fun h3 H3 u3 => ?_)
    try simp +decide only [nilC, bsx, Nat.reduceAdd, Int.reduceLE, Int.reduceLT, Int.reduceToNat, rsx, g_s, g_s_ne, RunS.al H3]
    refine callV_fn (tInner_call (s64_iN _) ?_)
    try simp +decide only [nilC, bsx, Nat.reduceAdd, Int.reduceLE, Int.reduceLT, Int.reduceToNat, rsx, g_s, g_s_ne, RunS.al H3]
    refine ifB_mk (fun c2 => ?_) (fun c2 => ?_)
    · rw [if_pos c2] at k
      exact RunS.stP H3 fun h4 H4 => k h4 (RunS.drp (RunS.none H4))
    · rw [if_neg (by rw [c2]; simp)] at k
      exact k h3 (RunS.drp (RunS.none H3))
  rw [if_neg c] at k
  refine ifB_dec (fun c => ?_) (fun c => ?_)
  · rw [if_pos c] at k
    exact callV_fn (mcWash_call H1 O fun h2 H2 => k h2 (RunS.drp H2))
  rw [if_neg c] at k
  exact k h1 (RunS.drp (RunS.none H1))
theorem und_pf : und Tryz.prog 93 = .pointer 99 := by kernel_rfl
theorem eqIn_ptr3 {P : Program} (d : Nat) {t el : TypeId} {a b : Addr} (hu : P.underlying t = some (.pointer el)) (hth : there P el = true) (hsz : siz P el ≠ 0) (F : Bool → Heap → Prop) (h : Heap) (H : hp P (sameAddr a b) F h) : hp P (Op.equalIn (d + 1) t (.pointer (some a)) (.pointer (some b))) F h := by
  simp only [Op.equalIn, hp_bind, hp_underlying hu, hp_sizeOf hth]
  rw [if_pos hsz]
  exact H
theorem ptr_eql {h : Heap} {p q : Nat} {K : Value → Heap → Prop} (k : K (.bool true) h) : ptrH Tryz.prog .eql 93 (some ⟨p, q, none⟩) (some ⟨p, q, none⟩) h K := by
  unfold ptrH
  rw [hp_binOp_eql (by simp) (by simp) (by simp) (by simp), equal_succ]
  refine eqIn_ptr3 9999 (und_some und_pf (by simp)) there_fr (by rw [siz_fr]; omega) _ _ ?_
  unfold sameAddr
  simp only [beq_self_eq_true, if_true]
  exact k
theorem mcChild_call (H : Sat h (RunS M T tv (some (b, o)) x R)) (O : Ok x) {at_ : Nat} {next place : Int} (ha : at_ ≤ 8) (hp : U place)
    (k1 : wmark (x.ret 0) = true → ∀ h', cellAt h' ⟨b, o + 1, none⟩ = some (.int .i64 0) → Sat h' (RunS M T tv none (cChild x at_ next place) R) → K (.tuple #[]) h')
    (k0 : wmark (x.ret 0) = false → ∀ h', Sat h' (RunS M T tv (some (b, o)) (cChild x at_ next place) R) → K (.tuple #[]) h') :
    CallH Tryz.prog 95 #[rV M T b o, .int .i64 (at_ : Int), .int .i64 next, .int .u64 place] h K := by
  refine call95 ?_
  unfold F95 g95 cf bd lP lI nP
  have B := RunS.fB H
  have hd := O.fr
  have r0 := RunS.ret H 0
  have r1 := RunS.ret H 1
  unfold cChild at k1 k0
  dsimp only at k1 k0
  have e1 : s64 ((at_ : Int) + 1) = ((at_ + 1 : Nat) : Int) := by unfold s64; omega
  have H1 := RunS.new H (.cells #[mP M, mP T, fP b o] 116); generalize h.push (.cells #[mP M, mP T, fP b o] 116) = h1 at *; generalize h.size = N at *
  try simp +decide only [nilC, bsx, Nat.reduceAdd, Int.reduceLE, Int.reduceLT, Int.reduceToNat, rsx, g_s, g_s_ne, RunS.al H1, e1]
  refine ⟨by omega, by omega, ?_⟩
  rw [show o + (2 + at_) = o + (at_ + 2) by omega]
  refine RunS.stR (i := at_) H1 (by rw [Nat.ble_eq]; omega) r0 fun h2 H2 => ?_
  refine ⟨by omega, by omega, ?_⟩
  rw [show o + (2 + (at_ + 1)) = o + (at_ + 1 + 2) by omega]
  refine RunS.stR (i := at_ + 1) H2 (by rw [Nat.ble_eq]; omega) r1 fun h3 H3 => RunS.stP H3 fun h4 H4 => ?_
  try simp +decide only [nilC, bsx, Nat.reduceAdd, Int.reduceLE, Int.reduceLT, Int.reduceToNat, rsx, g_s, g_s_ne, RunS.al H4]
  have hfl : (((x.s at_ (x.ret 0)).s (at_ + 1) (x.ret 1)).pc next).t.fr.length ≤ x.t.fr.length + 3 := by
    have l1 := frl_s x at_ (x.ret 0)
    have l2 := frl_s (x.s at_ (x.ret 0)) (at_ + 1) (x.ret 1)
    have l3 := frl_pc ((x.s at_ (x.ret 0)).s (at_ + 1) (x.ret 1)) next
    omega
  refine callV_fn (mWord_call at_ (by rw [Nat.ble_eq]; omega) H4 fun h5 H5 => ?_)
  have eg : (((x.s at_ (x.ret 0)).s (at_ + 1) (x.ret 1)).pc next).f.g at_ = x.ret 0 := by
    rw [f_pc, f_s, f_s, g_at, g_s_ne _ (by omega), g_s B.len (by omega)]
  rw [eg]
  try simp +decide only [nilC, bsx, Nat.reduceAdd, Int.reduceLE, Int.reduceLT, Int.reduceToNat, rsx, g_s, g_s_ne, RunS.al H5]
  refine callV_fn (wMark_call r0 ?_)
  try simp +decide only [nilC, bsx, Nat.reduceAdd, Int.reduceLE, Int.reduceLT, Int.reduceToNat, rsx, g_s, g_s_ne, RunS.al H5]
  refine ifB_mk (fun c => ?_) (fun c => ?_)
  · rw [if_pos c] at k1
    refine callV_fn (mCallN H5 [place] rfl (one_U hp) rfl (by omega) fun h6 b' o' _ st H6 => k1 c h6 ?_ (RunS.drp (RunS.none H6)))
    refine st b o 1 _ rfl ?_
    rw [f_pc]
    rfl
  · rw [if_neg (by rw [c]; simp)] at k0
    exact k0 c h5 (RunS.drp H5)
theorem mcSwap_call (H : Sat h (RunS M T tv (some (b, o)) x R)) (O : Ok x) {at_ : Nat} {place : Int} (ha : at_ ≤ 8) (hp : U place) (k : ∀ h', Sat h' (RunS M T tv none (cSwap x at_ place) R) → K (.tuple #[]) h') :
    CallH Tryz.prog 96 #[rV M T b o, .int .i64 (at_ : Int), .int .u64 place] h K := by
  refine call96 ?_
  unfold F96 g96 cf ce bd lP lI nP
  have B := RunS.fB H
  have P := RunS.pl H
  unfold cSwap at k
  dsimp only at k
  have H1 := RunS.new H (.cells #[mP M, mP T, fP b o] 116); generalize h.push (.cells #[mP M, mP T, fP b o] 116) = h1 at *; generalize h.size = N at *
  try simp +decide only [nilC, bsx, Nat.reduceAdd, Int.reduceLE, Int.reduceLT, Int.reduceToNat, rsx, g_s, g_s_ne, RunS.al H1]
  refine callV_fn (mWord_call 1 rfl H1 fun h2 H2 => ?_)
  try simp +decide only [nilC, bsx, Nat.reduceAdd, Int.reduceLE, Int.reduceLT, Int.reduceToNat, rsx, g_s, g_s_ne, RunS.al H2]
  refine callV_fn (mWord_call at_ (by rw [Nat.ble_eq]; omega) H2 fun h3 H3 => ?_)
  try simp +decide only [nilC, bsx, Nat.reduceAdd, Int.reduceLE, Int.reduceLT, Int.reduceToNat, rsx, g_s, g_s_ne, RunS.al H3]
  refine RunS.stP H3 fun h4 H4 => ?_
  try simp +decide only [nilC, bsx, Nat.reduceAdd, Int.reduceLE, Int.reduceLT, Int.reduceToNat, rsx, g_s, g_s_ne, RunS.al H4]
  refine callV_fn (mAt_call H4 fun h5 H5 => ?_)
  try simp +decide only [nilC, bsx, Nat.reduceAdd, Int.reduceLE, Int.reduceLT, Int.reduceToNat, rsx, g_s, g_s_ne, RunS.al H5]
  refine callV_fn (wPtr_call (B.g at_) ?_)
  try simp +decide only [nilC, bsx, Nat.reduceAdd, Int.reduceLE, Int.reduceLT, Int.reduceToNat, rsx, g_s, g_s_ne, RunS.al H5]
  refine callV_fn (wNext_call (B.g 1) ?_)
  try simp +decide only [nilC, bsx, Nat.reduceAdd, Int.reduceLE, Int.reduceLT, Int.reduceToNat, rsx, g_s, g_s_ne, RunS.al H5]
  refine callV_fn (mAt_call H5 fun h6 H6 => ?_)
  try simp +decide only [nilC, bsx, Nat.reduceAdd, Int.reduceLE, Int.reduceLT, Int.reduceToNat, rsx, g_s, g_s_ne, RunS.al H6]
  refine callV_fn (wPtr_call (B.g 1) ?_)
  try simp +decide only [nilC, bsx, Nat.reduceAdd, Int.reduceLE, Int.reduceLT, Int.reduceToNat, rsx, g_s, g_s_ne, RunS.al H6]
  refine callV_fn (wNext_call (B.g at_) ?_)
  try simp +decide only [nilC, bsx, Nat.reduceAdd, Int.reduceLE, Int.reduceLT, Int.reduceToNat, rsx, g_s, g_s_ne, RunS.al H6]
  refine callV_fn (rDcas H6 (at_iN P _) (at_iN P _) wNext_U wNext_U O.st fun h7 H7 => ?_)
  try simp +decide only [nilC, bsx, Nat.reduceAdd, Int.reduceLE, Int.reduceLT, Int.reduceToNat, rsx, g_s, g_s_ne, RunS.al H7]
  refine ifB_mk (fun c => ?_) (fun c => ?_)
  · rw [if_pos c] at k
    exact RunS.stR (i := 0) H7 rfl hp fun h8 H8 => k h8 (RunS.drp (RunS.none H8))
  · rw [if_neg (by rw [c]; simp)] at k
    exact k h7 (RunS.drp (RunS.none H7))
theorem mcStep_call (H : Sat h (RunS M T tv (some (b, o)) x R)) (O : Ok x) (k : ∀ h', Sat h' (RunS M T tv none (cStep x) R) → K (.tuple #[]) h') :
    CallH Tryz.prog 53 #[rV M T b o] h K := by
  refine call53 ?_
  unfold F53 g53 cf bd lP lI nP
  have B := RunS.fB H
  have P := RunS.pl H
  have hd := O.fr
  unfold cStep at k
  dsimp only at k
  have hl : U (u64 (2 * x.f.g 0)) := u64_U _
  have H1 := RunS.new H (.cells #[mP M, mP T, fP b o] 116); generalize h.push (.cells #[mP M, mP T, fP b o] 116) = h1 at *; generalize h.size = N at *
  try simp +decide only [nilC, bsx, Nat.reduceAdd, Int.reduceLE, Int.reduceLT, Int.reduceToNat, rsx, g_s, g_s_ne, RunS.al H1]
  generalize hle : u64 (2 * x.f.g 0) = left at *
  refine ifB_dec (fun c => ?_) (fun c => ?_)
  · rw [if_pos c] at k
    exact callV_fn (mCallN H1 [left] rfl (one_U hl) rfl (by omega) fun h4 b' o' _ _ H4 => k h4 (RunS.drp (RunS.none H4)))
  rw [if_neg c] at k
  refine ifB_dec (fun c => ?_) (fun c => ?_)
  · rw [if_pos c] at k
    refine callV_fn (mcChild_call (at_ := 3) H1 O (by omega) hl (fun cm h2 e2 H2 => ?_) fun cm h2 H2 => ?_)
    · rw [if_pos cm] at k
      refine ⟨fun vs h' => vs = [.bool false] ∧ h' = h2, ?_, ?_⟩
      · refine ldH_mk e2 ?_
        try simp only [nilC, bsx, Nat.reduceAdd, Int.reduceLE, Int.reduceLT, Int.reduceToNat]
        rw [show ((0 : Int) == 6) = false from rfl]
        try simp only [nilC, bsx, Nat.reduceAdd, Int.reduceLE, Int.reduceLT, Int.reduceToNat]
      rintro v30 g31 h32 ⟨e, rfl⟩
      cases e
      try simp only [nilC, bsx, Nat.reduceAdd, Int.reduceLE, Int.reduceLT, Int.reduceToNat]
      exact k h32 (RunS.drp H2)
    · rw [if_neg (by rw [cm]; simp)] at k
      have epc : (cChild x 3 6 left).f.pc = 6 := by
        unfold cChild
        dsimp only
        rw [if_neg (by rw [cm]; simp)]
        try simp +decide only [nilC, bsx, Nat.reduceAdd, Int.reduceLE, Int.reduceLT, Int.reduceToNat, rsx, g_s, g_s_ne, B.len]
      have efl : (cChild x 3 6 left).t.fr.length ≤ x.t.fr.length + 3 := by
        unfold cChild
        dsimp only
        rw [if_neg (by rw [cm]; simp)]
        have l1 := frl_s x 3 (x.ret 0)
        have l2 := frl_s (x.s 3 (x.ret 0)) (3 + 1) (x.ret 1)
        have l3 := frl_pc ((x.s 3 (x.ret 0)).s (3 + 1) (x.ret 1)) 6
        omega
      refine ⟨fun vs h' => vs = [.bool true] ∧ h' = h2, ?_, ?_⟩
      · try simp +decide only [nilC, bsx, Nat.reduceAdd, Int.reduceLE, Int.reduceLT, Int.reduceToNat, rsx, g_s, g_s_ne, RunS.al H2, epc]
        rw [show ((6 : Int) == 6) = true from rfl]
        try simp only [nilC, bsx, Nat.reduceAdd, Int.reduceLE, Int.reduceLT, Int.reduceToNat]
        refine callV_fn (rTop H2 (fun hn => absurd hn (List.length_pos_iff.1 (fr_ne H2))) fun b2 o2 _ hbo _ => ?_)
        obtain ⟨rfl, rfl⟩ := hbo b o rfl
        try simp only [nilC, bsx, Nat.reduceAdd, Int.reduceLE, Int.reduceLT, Int.reduceToNat]
        exact ptr_eql (by simp only [asBool_bool]; trivial)
      rintro v30 g31 h32 ⟨e, rfl⟩
      cases e
      try simp +decide only [nilC, bsx, Nat.reduceAdd, Int.reduceLE, Int.reduceLT, Int.reduceToNat, rsx, g_s, g_s_ne, RunS.al H2]
      exact callV_fn (mCallN H2 [u64 (left + 1)] rfl (one_U (u64_U _)) rfl (by omega) fun h4 b' o' _ _ H4 => k h4 (RunS.drp (RunS.none H4)))
  rw [if_neg c] at k
  refine ifB_dec (fun c => ?_) (fun c => ?_)
  · rw [if_pos c] at k
    exact callV_fn (mcChild_call (at_ := 5) H1 O (by omega) (u64_U _) (fun cm h2 e2 H2 => k h2 (RunS.drp H2)) fun cm h2 H2 => k h2 (RunS.drp (RunS.none H2)))
  rw [if_neg c] at k
  refine ifB_dec (fun c => ?_) (fun c => ?_)
  · rw [if_pos c] at k
    refine ⟨fun vs h' => (∃ w, vs = [.bool (decide (x.f.g 4 ≤ x.f.g 6 ∧ x.f.g 4 < x.f.g 2)), w]) ∧ h' = h1, ?_, ?_⟩
    · refine ifB_dec (fun c2 => ?_) (fun c2 => ?_)
      · rw [show decide (x.f.g 4 < x.f.g 2) = decide (x.f.g 4 ≤ x.f.g 6 ∧ x.f.g 4 < x.f.g 2) by rw [decide_eq_decide]; omega]
        exact ⟨⟨_, rfl⟩, by trivial⟩
      · rw [decide_eq_false (p := x.f.g 4 ≤ x.f.g 6 ∧ x.f.g 4 < x.f.g 2) (by omega)]
        exact ⟨⟨_, rfl⟩, by trivial⟩
    rintro v57 v58 g59 h60 ⟨⟨w, e⟩, rfl⟩
    cases e
    try simp only [nilC, bsx, Nat.reduceAdd, Int.reduceLE, Int.reduceLT, Int.reduceToNat]
    refine ifB_dec (fun c2 => ?_) (fun c2 => ?_)
    · rw [if_pos c2] at k
      try simp +decide only [nilC, bsx, Nat.reduceAdd, Int.reduceLE, Int.reduceLT, Int.reduceToNat, rsx, g_s, g_s_ne, RunS.al H1]
      exact callV_fn (mcSwap_call (at_ := 3) H1 O (by omega) hl fun h2 H2 => k h2 (RunS.drp H2))
    rw [if_neg c2] at k
    refine ⟨fun vs h' => (∃ w, vs = [.bool (decide (x.f.g 6 < x.f.g 4 ∧ x.f.g 6 < x.f.g 2)), w]) ∧ h' = h60, ?_, ?_⟩
    · try simp +decide only [nilC, bsx, Nat.reduceAdd, Int.reduceLE, Int.reduceLT, Int.reduceToNat, rsx, g_s, g_s_ne, RunS.al H1]
      refine ifB_dec (fun c2 => ?_) (fun c2 => ?_)
      · rw [show decide (x.f.g 6 < x.f.g 2) = decide (x.f.g 6 < x.f.g 4 ∧ x.f.g 6 < x.f.g 2) by rw [decide_eq_decide]; omega]
        exact ⟨_, rfl⟩
      · rw [decide_eq_false (p := x.f.g 6 < x.f.g 4 ∧ x.f.g 6 < x.f.g 2) (by omega)]
        exact ⟨_, rfl⟩
    rintro v57 v58 g59 h60 ⟨⟨w, e⟩, rfl⟩
    cases e
    try simp +decide only [nilC, bsx, Nat.reduceAdd, Int.reduceLE, Int.reduceLT, Int.reduceToNat, rsx, g_s, g_s_ne, RunS.al H1]
    refine ifB_dec (fun c3 => ?_) (fun c3 => ?_)
    · rw [if_pos c3] at k
      exact callV_fn (mcSwap_call (at_ := 5) H1 O (by omega) (u64_U _) fun h2 H2 => k h2 (RunS.drp H2))
    · rw [if_neg c3] at k
      exact callV_fn (mcWash_call H1 O fun h2 H2 => k h2 (RunS.drp H2))
  rw [if_neg c] at k
  exact callV_fn (mcHere_call H1 O fun h2 H2 => k h2 (RunS.drp H2))
theorem moundDo_call (H : Sat h (RunS M T tv fo x R)) (O : Ok x) (k : ∀ h', Sat h' (RunS M T tv none (moundDo x) R) → K (.tuple #[]) h') :
    CallH Tryz.prog 27 #[mP M, mP T] h K := by
  refine call27 ?_
  unfold F27 cf bd lI nP
  unfold moundDo at k
  dsimp only at k
  refine callV_fn (rTop H (fun e => ?_) fun b o hne _ H1 => ?_)
  · rw [if_pos e] at k
    try simp only [nilC, bsx, Nat.reduceAdd, Int.reduceLE, Int.reduceLT, Int.reduceToNat]
    refine ⟨fun vs h' => vs = [.bool true] ∧ h' = h, ⟨rfl, rfl⟩, ?_⟩
    rintro v4 g6 h7 ⟨e, rfl⟩
    cases e
    try simp only [nilC, bsx, Nat.reduceAdd, Int.reduceLE, Int.reduceLT, Int.reduceToNat]
    exact k _ (RunS.none H)
  · rw [if_neg hne] at k
    try simp only [nilC, bsx, Nat.reduceAdd, Int.reduceLE, Int.reduceLT, Int.reduceToNat]
    refine ⟨fun vs h' => vs = [.bool false] ∧ h' = h, ⟨rfl, rfl⟩, ?_⟩
    rintro v4 g6 h7 ⟨e, rfl⟩
    cases e
    try simp only [nilC, bsx, Nat.reduceAdd, Int.reduceLE, Int.reduceLT, Int.reduceToNat]
    have B := RunS.fB H1
    have H2 := RunS.new H1 (.cells #[.pointer none, .pointer none, .pointer none] 112)
    generalize h7.push (.cells #[.pointer none, .pointer none, .pointer none] 112) = h2 at *
    generalize h7.size = N at *
    refine st3 (stN_full (vs := [mP M, mP T, fP b o]) (RunS.loc H2) rfl (by simp [oneC]) fun h3 w => ?_)
    have H3 : Sat h3 (RunS M T tv (some (b, o)) x (pt N (.cells #[mP M, mP T, fP b o] 112) * R)) := RunS.wr H2 w.new w.old
    clear H2 w
    try simp +decide only [nilC, bsx, Nat.reduceAdd, Int.reduceLE, Int.reduceLT, Int.reduceToNat, rsx, g_s, g_s_ne, RunS.al H3]
    refine ⟨fun vs h' => (∃ w1 w2, vs = [.bool (decide (x.f.pc = 90 ∧ 11 ≤ x.f.fn ∧ x.f.fn ≤ 13)), w1, w2]) ∧ h' = h3, ?_, ?_⟩
    · refine ifB_dec (fun c => ?_) (fun c => ?_)
      · refine ifB_dec (fun c2 => ?_) (fun c2 => ?_)
        · rw [show decide (x.f.fn ≤ 13) = decide (x.f.pc = 90 ∧ 11 ≤ x.f.fn ∧ x.f.fn ≤ 13) by rw [decide_eq_decide]; omega]
          exact ⟨⟨_, _, rfl⟩, by trivial⟩
        · rw [decide_eq_false (p := x.f.pc = 90 ∧ 11 ≤ x.f.fn ∧ x.f.fn ≤ 13) (by omega)]
          exact ⟨⟨_, _, rfl⟩, by trivial⟩
      · rw [decide_eq_false (p := x.f.pc = 90 ∧ 11 ≤ x.f.fn ∧ x.f.fn ≤ 13) (by omega)]
        exact ⟨⟨_, _, rfl⟩, by trivial⟩
    rintro v21 v22 v23 g24 h25 ⟨⟨w1, w2, e⟩, rfl⟩
    cases e
    try simp +decide only [nilC, bsx, Nat.reduceAdd, Int.reduceLE, Int.reduceLT, Int.reduceToNat, rsx, g_s, g_s_ne, RunS.al H3]
    refine ifB_dec (fun c => ?_) (fun c => ?_)
    · rw [if_pos c] at k
      exact callV_fn (popN H3 [x.f.g 7, x.f.g 8, x.f.g 9] rfl (three_U (B.g 7) (B.g 8) (B.g 9)) rfl fun h4 H4 => k h4 (RunS.drp H4))
    rw [if_neg c] at k
    refine ifB_dec (fun c => ?_) (fun c => ?_)
    · rw [if_pos c] at k
      exact callV_fn (mRead_call H3 O.st (by have := O.fr; omega) fun h4 H4 => k h4 (RunS.drp H4))
    rw [if_neg c] at k
    refine ifB_dec (fun c => ?_) (fun c => ?_)
    · rw [if_pos c] at k
      exact callV_fn (miStep_call H3 O fun h4 H4 => k h4 (RunS.drp H4))
    rw [if_neg c] at k
    refine ⟨fun vs h' => (∃ w, vs = [.bool (decide (x.f.fn = 12 ∨ x.f.fn = 13)), w]) ∧ h' = h25, ?_, ?_⟩
    · refine ifB_dec (fun c => ?_) (fun c => ?_)
      · rw [decide_eq_true (p := x.f.fn = 12 ∨ x.f.fn = 13) (.inl c)]
        exact ⟨⟨_, rfl⟩, by trivial⟩
      · rw [show (x.f.fn == 13) = decide (x.f.fn = 12 ∨ x.f.fn = 13) by rw [Bool.eq_iff_iff, beq_iff_eq, decide_eq_true_iff]; omega]
        exact ⟨⟨_, rfl⟩, by trivial⟩
    rintro v61 v62 g63 h64 ⟨⟨w, e⟩, rfl⟩
    cases e
    try simp +decide only [nilC, bsx, Nat.reduceAdd, Int.reduceLE, Int.reduceLT, Int.reduceToNat, rsx, g_s, g_s_ne, RunS.al H3]
    refine ifB_dec (fun c => ?_) (fun c => ?_)
    · rw [if_pos c] at k
      exact callV_fn (mrStep_call H3 O fun h4 H4 => k h4 (RunS.drp H4))
    rw [if_neg c] at k
    refine ifB_dec (fun c => ?_) (fun c => ?_)
    · rw [if_pos c] at k
      exact callV_fn (mcStep_call H3 O fun h4 H4 => k h4 (RunS.drp H4))
    rw [if_neg c] at k
    exact callV_fn (hazardDo_call H3 O fun h4 H4 => k h4 (RunS.drp H4))
end
end
section
open Mod
section
variable {K : Value → Heap → Prop} {h : Heap} {M T b o N : Nat} {tv : Value} {fo : Option (Nat × Nat)} {x : Run} {R : Hp}
end
end
section
open Mod
section
variable {K : Value → Heap → Prop} {h : Heap} {M T b o N : Nat} {tv : Value} {fo : Option (Nat × Nat)} {x : Run} {R : Hp}
end
end
section
open Mod
section
variable {K : Value → Heap → Prop} {h : Heap} {M T b o N : Nat} {tv : Value} {fo : Option (Nat × Nat)} {x : Run} {R : Hp}
end
end
section
open Mod
theorem bits_det {d : Run → Run} : ∀ {n m : Nat} {x z w : Run}, Mod.bits d n x = some z → Mod.bits d m x = some w → z = w
  | 0, 0, x, z, w, h1, h2 => by
    rw [h1] at h2; exact Option.some.inj h2
  | 0, m + 1, x, z, w, h1, h2 => by
    unfold Mod.bits at h1 h2
    split at h1
    · rename_i c
      rw [if_pos c] at h2
      rw [h1] at h2; exact Option.some.inj h2
    · cases h1
  | n + 1, 0, x, z, w, h1, h2 => by
    unfold Mod.bits at h1 h2
    split at h2
    · rename_i c
      rw [if_pos c] at h1
      rw [h1] at h2; exact Option.some.inj h2
    · cases h2
  | n + 1, m + 1, x, z, w, h1, h2 => by
    unfold Mod.bits at h1 h2
    split at h1
    · rename_i c
      rw [if_pos c] at h2
      rw [h1] at h2; exact Option.some.inj h2
    · rename_i c
      rw [if_neg c] at h2
      exact bits_det h1 h2
open Classical in
noncomputable def stepF (d : Run → Run) (x : Run) : Run := if h : ∃ z, ∃ n, Mod.bits d n x = some z then h.choose else x
theorem stepF_eq {d : Run → Run} {n : Nat} {x z : Run} (h : Mod.bits d n x = some z) : stepF d x = z := by
  have hh : ∃ z, ∃ n, Mod.bits d n x = some z := ⟨z, n, h⟩
  unfold stepF
  rw [dif_pos hh]
  obtain ⟨m, hm⟩ := hh.choose_spec
  exact bits_det hm h
def thrAt (m : Mac) (k : Nat) : Thr := m.th.getD k (thr0 m.p.c)
def ansOf (t : Thr) : Cl := ⟨s64 (t.ret.getD 0 0), u32 (t.ret.getD 1 0), u32 (t.ret.getD 2 0)⟩
def cl0 : Cl := ⟨0, 0, 0⟩
def DS.enter (ins : Int) (calls : List (List Cl)) (s : DS) (k : Nat) : Option DS :=
  if (thrAt s.m k).fr = [] then
    if (calls.getD k []).length ≤ (s.nx.getD k 0).toNat then none
    else some ⟨s.m.setTh (s.m.th.set k ((thrAt s.m k).push (ins + ((calls.getD k []).getD (s.nx.getD k 0).toNat cl0).op) [((calls.getD k []).getD (s.nx.getD k 0).toNat cl0).key, ((calls.getD k []).getD (s.nx.getD k 0).toNat cl0).val])), s.nx.set k (s.nx.getD k 0 + 1), s.cu.set k ((calls.getD k []).getD (s.nx.getD k 0).toNat cl0), s.ev ++ [⟨k, false, (calls.getD k []).getD (s.nx.getD k 0).toNat cl0, cl0⟩]⟩
  else some s
noncomputable def DS.go (d : Run → Run) (s : DS) (k : Nat) : DS :=
  if (stepF d ⟨s.m.quiet, thrAt s.m k, k⟩).t.fr = [] then ⟨(stepF d ⟨s.m.quiet, thrAt s.m k, k⟩).m.setTh (s.m.th.set k (stepF d ⟨s.m.quiet, thrAt s.m k, k⟩).t), s.nx, s.cu, s.ev ++ [⟨k, true, cl0, ansOf (stepF d ⟨s.m.quiet, thrAt s.m k, k⟩).t⟩]⟩
  else ⟨(stepF d ⟨s.m.quiet, thrAt s.m k, k⟩).m.setTh (s.m.th.set k (stepF d ⟨s.m.quiet, thrAt s.m k, k⟩).t), s.nx, s.cu, s.ev⟩
noncomputable def DS.pick (d : Run → Run) (ins : Int) (calls : List (List Cl)) (s : DS) (k : Int) : DS := match s.enter ins calls k.toNat with
  | none => s
  | some s1 => s1.go d k.toNat
noncomputable def driveM (d : Run → Run) (ins : Int) (calls : List (List Cl)) (m : Mac) (picks : List Int) : DS := picks.foldl (fun s k => s.pick d ins calls k) ⟨m, List.replicate calls.length 0, List.replicate calls.length cl0, []⟩
structure GoodI (d : Run → Run) (W : Run → Prop) (ins : Int) (Inv : Nat → Mac → Prop) : Prop where
  mono : ∀ (i : Nat) (m : Mac), Inv i m → Inv (i + 1) m
  wd : ∀ i m, Inv i m → WdOk m ∧ 2 < m.mm.w.length
  push : ∀ (i : Nat) (m : Mac) (k : Nat) (t : Thr) (c : Cl), Inv i m → m.th[k]? = some t → t.fr = [] → 0 ≤ c.op ∧ c.op ≤ 2 → V c.key → V c.val → Inv i (m.setTh (m.th.set k (t.push (ins + c.op) [c.key, c.val])))
  step : ∀ (i : Nat) (m : Mac) (k : Nat) (t : Thr), Inv i m → i < 100000 → m.th[k]? = some t → t.fr ≠ [] → ∃ n z, Mod.bits d n ⟨m.quiet, t, k⟩ = some z ∧ Safe d W n ⟨m.quiet, t, k⟩ ∧ z.id = k ∧ z.m.th = m.th ∧ Inv (i + 1) (z.m.setTh (m.th.set k z.t))
structure ScrF (h : Heap) (ca : Option Addr) (cl : Nat) (pa : Option Addr) (pl : Nat) (calls : List (List Cl)) (picks : List Int) : Prop where
  cs : cl = calls.length
  row : ∀ i, i < calls.length → ∃ a c, (∃ ad, ca = some ad ∧ cellAt h (ad.add i) = some (.slice a (calls.getD i []).length c)) ∧ Sees h a ((calls.getD i []).flatMap clc)
  ps : pl = picks.length
  pk : Sees h pa (picks.map iv)
structure ScrOk (calls : List (List Cl)) (picks : List Int) : Prop where
  n : 1 ≤ calls.length ∧ calls.length ≤ 6
  cl : ∀ l ∈ calls, l.length ≤ 1000 ∧ ∀ c ∈ l, (0 ≤ c.op ∧ c.op ≤ 2) ∧ V c.key ∧ V c.val
  pk : picks.length ≤ 60000 ∧ ∀ k ∈ picks, 0 ≤ k ∧ k < calls.length
theorem fitsCl_call {K : Value → Heap → Prop} {h : Heap} {c a : Cl} (k : ∀ h', Old h.size h h' → K (.bool (fitsB ⟨c.op, c.key, c.val⟩ ⟨a.op, a.key, a.val⟩)) h') :
    CallH Tryz.prog 48 #[.agg #[.int .i64 c.op, .int .u32 c.key, .int .u32 c.val], .agg #[.int .i64 a.op, .int .u32 a.key, .int .u32 a.val]] h K :=
  refFits_call (c := ⟨c.op, c.key, c.val⟩) (a := ⟨a.op, a.key, a.val⟩) k
theorem make_bl {K : Value → Heap → Prop} {h : Heap} {n : Nat} (hn : n ≤ 4096) (k : K (.slice (some ⟨h.size, 0, none⟩) n n) (h.push (.cells ((List.replicate n false).map bv).toArray 4))) : mkSlH Tryz.prog 4 (n : Int) (n : Int) h K := by
  have e1 : zcells Tryz.prog 4 = [.bool false] := by kernel_rfl
  have e2 : byt Tryz.prog 4 = 1 := by kernel_rfl
  unfold mkSlH
  refine ⟨by omega, by omega, by omega, by rw [e2]; omega, ?_⟩
  rw [e1, flat_rep, Int.toNat_natCast]
  rw [List.map_replicate] at k
  exact k
theorem make_cl {K : Value → Heap → Prop} {h : Heap} {n : Nat} (hn : n ≤ 4096) (k : K (.slice (some ⟨h.size, 0, none⟩) n n) (h.push (.cells ((List.replicate n cl0).flatMap clc).toArray 53))) : mkSlH Tryz.prog 53 (n : Int) (n : Int) h K := by
  have e1 : zcells Tryz.prog 53 = clc cl0 := by kernel_rfl
  have e2 : byt Tryz.prog 53 = 16 := by kernel_rfl
  unfold mkSlH
  refine ⟨by omega, by omega, by omega, by rw [e2]; omega, ?_⟩
  rw [e1, Int.toNat_natCast]
  rw [List.flatMap_def, List.map_replicate] at k
  exact k
structure DOk (Inv : Nat → Mac → Prop) (calls : List (List Cl)) (j : Nat) (s : DS) : Prop where
  inv : Inv j s.m
  th : s.m.th.length = calls.length
  nx : ∀ k, k < calls.length → 0 ≤ s.nx.getD k 0 ∧ s.nx.getD k 0 ≤ (calls.getD k []).length
  ev : s.ev.length ≤ 2 * j
section
variable {K : Value → Heap → Prop} {h : Heap} {M : Nat} {B : DB} {Ts : List Nat} {R : Hp} {d : Run → Run} {W : Run → Prop} {ins : Int} {Inv : Nat → Mac → Prop} {calls : List (List Cl)}
theorem drvS_push {s : DS} (H : Sat h (drvS B M Ts calls.length s * R)) {k T : Nat} {c : Cl} (hk : Ts[k]? = some T) (hth : s.m.th.length = calls.length) (hk2 : k < calls.length) (he : (thrAt s.m k).fr = []) (hc : U c.key) (hv : U c.val) (F : Value → Heap → Prop)
    (kk : ∀ h', Sat h' (drvS B M Ts calls.length { s with m := s.m.setTh (s.m.th.set k ((thrAt s.m k).push (ins + c.op) [c.key, c.val])) } * R) → F (.tuple #[]) h') :
    CallH Tryz.prog 38 #[mP T, .int .i64 (ins + c.op), .slice (some ⟨h.size, 0, none⟩) 2 2] (h.push (.cells #[.int .u64 c.key, .int .u64 c.val] 65)) F := by
  obtain ⟨Q, H1, re⟩ := drvS_mac H
  have hlt : k < s.m.th.length := by omega
  have ht : s.m.th[k]? = some (thrAt s.m k) := by unfold thrAt; rw [List.getElem?_eq_getElem hlt]; simp [hlt]
  obtain ⟨tv, Q2, H2, re2⟩ := machS_take H1 hk ht
  refine rPushN H2 [c.key, c.val] rfl (two_U hc hv) (by omega) (by show (thrAt s.m k).fr.length < _; rw [he]; decide) fun h' b o _ _ H3 => kk h' ?_
  exact re _ _ _ (re2 _ _ _ rfl (RunS.none H3))
theorem drvS_step {f : Nat} (D : DoC f d W) (G : GoodI d W ins Inv) {s : DS} {j : Nat} (H : Sat h (drvS B M Ts calls.length s * R)) {k T : Nat} (hk : Ts[k]? = some T) (hth : s.m.th.length = calls.length) (hk2 : k < calls.length) (hI : Inv j s.m) (hj : j < 100000) (hne : (thrAt s.m k).fr ≠ []) (F : Value → Heap → Prop)
    (kk : ∀ h' z, z = stepF d ⟨s.m.quiet, thrAt s.m k, k⟩ → Inv (j + 1) (z.m.setTh (s.m.th.set k z.t)) → Sat h' (drvS B M Ts calls.length { s with m := z.m.setTh (s.m.th.set k z.t) } * R) → F (.bool (!z.t.fr.isEmpty)) h') :
    CallH Tryz.prog 40 #[mP M, .int .i64 k, .func (.func f) #[] #[]] h F := by
  obtain ⟨Q, H1, re⟩ := drvS_mac H
  have hlt : k < s.m.th.length := by omega
  have ht : s.m.th[k]? = some (thrAt s.m k) := by unfold thrAt; rw [List.getElem?_eq_getElem hlt]; simp [hlt]
  obtain ⟨n, z, hb, hs, hid, _, hI2⟩ := G.step j s.m k _ hI hj ht hne
  refine stepLoop_call D H1 (n := n) (z := z) (i := k) (by omega) (by rw [Int.toNat_natCast]; exact ht) hb hs hid fun h' H2 => ?_
  rw [Int.toNat_natCast] at H2
  exact kk h' z (stepF_eq hb).symm hI2 (re _ _ _ H2)
theorem drvS_room (G : GoodI d W ins Inv) {s : DS} {j : Nat} {n : Nat} (H : Sat h (drvS B M Ts n s * R)) (hI : Inv j s.m) {c : Mod.Cf} {F : Value → Heap → Prop} (kk : ∀ h' b, Sat h' (drvS B M Ts n s * R) → F (.bool b) h') :
    CallH Tryz.prog 47 #[mP M, cfV c] h F := by
  obtain ⟨Q, H1, re⟩ := drvS_mac H
  obtain ⟨a, cc, hl, H2⟩ := machS_iff.1 H1
  obtain ⟨w1, w2⟩ := G.wd j s.m hI
  exact room_call H2 w1 w2 fun h' b H3 => kk h' b (re h' s.m R (machS_iff.2 ⟨a, cc, hl, H3⟩))
theorem drvS_fault {s : DS} {n : Nat} (H : Sat h (drvS B M Ts n s * R)) {F : Value → Heap → Prop} (kk : ∀ h', Sat h' (drvS B M Ts n s * R) → F (.bool s.m.fault) h') :
    CallH Tryz.prog 39 #[mP M] h F := by
  obtain ⟨Q, H1, re⟩ := drvS_mac H
  obtain ⟨a, cc, hl, H2⟩ := machS_iff.1 H1
  exact fault_call H2 fun h' H3 => kk h' (re h' s.m R (machS_iff.2 ⟨a, cc, hl, H3⟩))
theorem drvS_answer {s : DS} {n : Nat} (H : Sat h (drvS B M Ts n s * R)) {k T : Nat} (hk : Ts[k]? = some T) (hlt : k < s.m.th.length) {F : Value → Heap → Prop}
    (kk : ∀ h', Sat h' (drvS B M Ts n s * R) → F (.agg #[.int .i64 (ansOf (thrAt s.m k)).op, .int .u32 (ansOf (thrAt s.m k)).key, .int .u32 (ansOf (thrAt s.m k)).val]) h') :
    CallH Tryz.prog 41 #[mP T] h F := by
  obtain ⟨Q, H1, re⟩ := drvS_mac H
  have ht : s.m.th[k]? = some (thrAt s.m k) := by unfold thrAt; rw [List.getElem?_eq_getElem hlt]; simp [hlt]
  obtain ⟨tv, Q2, H2, re2⟩ := machS_take H1 hk ht
  refine answer_call (RunS.thr H2) fun h' H3 => kk h' ?_
  have H4 := re h' _ R (re2 h' ⟨s.m, thrAt s.m k, k⟩ (Q * R) rfl (RunS.ofThr H3))
  have e : s.m.setTh (s.m.th.set k (thrAt s.m k)) = s.m := by
    unfold Mod.Mac.setTh
    have : s.m.th.set k (thrAt s.m k) = s.m.th := by
      apply List.ext_getElem (by simp)
      intro i h1 h2
      rw [List.getElem_set]
      split
      · rename_i e; subst e; exact (List.getElem?_eq_some_iff.1 ht).2.symm ▸ rfl
      · rfl
    rw [this]
  have H4 : Sat h' (drvS B M Ts n { s with m := s.m.setTh (s.m.th.set k (thrAt s.m k)) } * R) := H4
  rw [e] at H4
  exact H4
theorem drvS_top {s : DS} {n : Nat} (H : Sat h (drvS B M Ts n s * R)) {k T : Nat} (hk : Ts[k]? = some T) (hlt : k < s.m.th.length) {F : Value → Heap → Prop} (k0 : (thrAt s.m k).fr = [] → F (.pointer none) h) (k1 : ∀ b o, (thrAt s.m k).fr ≠ [] → F (.pointer (some ⟨b, o, none⟩)) h) :
    CallH Tryz.prog 42 #[mP T] h F := by
  obtain ⟨Q, H1, re⟩ := drvS_mac H
  have ht : s.m.th[k]? = some (thrAt s.m k) := by unfold thrAt; rw [List.getElem?_eq_getElem hlt]; simp [hlt]
  obtain ⟨tv, Q2, H2, re2⟩ := machS_take H1 hk ht
  exact rTop H2 (fun e => k0 e) fun b o hne _ _ => k1 b o hne
end
end
section
open Mod
theorem make_in {K : Value → Heap → Prop} {h : Heap} {n : Nat} (hn : n ≤ 4096) (k : K (.slice (some ⟨h.size, 0, none⟩) n n) (h.push (.cells ((List.replicate n (0 : Int)).map iv).toArray 3))) : mkSlH Tryz.prog 3 (n : Int) (n : Int) h K := by
  refine make_i (by omega) ?_
  rw [Int.toNat_natCast]
  exact k
def scrC (c : Mod.Cf) (ca : Option Addr) (cl cc : Nat) (pa : Option Addr) (pl pc : Nat) (da : Option Addr) (dl dc : Nat) : List Value := [.int .i64 c.algo, .int .i64 c.threads, .int .i64 c.nodes, .int .i64 c.level, .int .i64 c.batch, .int .i64 c.probes, .int .i64 c.scan, .slice ca cl cc, .slice pa pl pc, .slice da dl dc]
section
variable {K : Value → Heap → Prop} {h : Heap} {M : Nat} {Ts : List Nat} {R : Hp} {d : Run → Run} {W : Run → Prop} {ins : Int} {Inv : Nat → Mac → Prop} {calls : List (List Cl)} {picks : List Int} {m : Mac}
theorem drive_call {f : Nat} (D : DoC f d W) (G : GoodI d W ins Inv) (S : ScrOk calls picks) (hins : 0 ≤ ins ∧ ins ≤ 100) {c : Mod.Cf} {ca pa da : Option Addr} {cl cc pl pc dl dc : Nat} (H : Sat h (machS M Ts m * R)) (hT : Ts.length = calls.length) (hth : m.th.length = calls.length) (hI : Inv 0 m)
    (hS : ∀ h' P, Sat h' (P * R) → ScrF h' ca cl pa pl calls picks)
    (k : ∀ h' ea ec o r bz, Sat h' (ownS 59 8 ea (driveM d ins calls m picks).ev.length ec ((driveM d ins calls m picks).ev.flatMap evc) * (machS M Ts (driveM d ins calls m picks).m * R)) → K (.agg #[.slice ea (driveM d ins calls m picks).ev.length ec, .bool o, .bool r, .int .i64 bz]) h') :
    CallH Tryz.prog 23 #[.agg #[.func (.func f) #[] #[], .int .i64 ins], mP M, .agg #[.int .i64 c.algo, .int .i64 c.threads, .int .i64 c.nodes, .int .i64 c.level, .int .i64 c.batch, .int .i64 c.probes, .int .i64 c.scan, .slice ca cl cc, .slice pa pl pc, .slice da dl dc]] h K := by
  refine call23 ?_
  unfold F23 g23 q23_1 cf ce bd lS lI
  have hn := S.n
  have H1 := H.push (.cells #[.func (.func f) #[] #[], .int .i64 ins] 37)
  generalize h.push (.cells #[.func (.func f) #[] #[], .int .i64 ins] 37) = h1 at *
  generalize h.size = QB at *
  have H2 := H1.push (.cells (scrC c ca cl cc pa pl pc da dl dc).toArray 28)
  rw [show (.cells #[.int .i64 c.algo, .int .i64 c.threads, .int .i64 c.nodes, .int .i64 c.level, .int .i64 c.batch, .int .i64 c.probes, .int .i64 c.scan, .slice ca cl cc, .slice pa pl pc, .slice da dl dc] 28 : Obj) = .cells (scrC c ca cl cc pa pl pc da dl dc).toArray 28 from rfl]
  generalize h1.push (.cells (scrC c ca cl cc pa pl pc da dl dc).toArray 28) = h2 at *
  generalize h1.size = SB at *
  have H3 := H2.push (.cells (playC none 0 0 false false 0).toArray 56)
  rw [show (.cells #[.slice none 0 0, .bool false, .bool false, .int .i64 0] 56 : Obj) = .cells (playC none 0 0 false false 0).toArray 56 from rfl]
  generalize h2.push (.cells (playC none 0 0 false false 0).toArray 56) = h3 at *
  generalize h2.size = PR at *
  have H4 := H3.push (.cells (playC none 0 0 false false 0).toArray 56)
  generalize h3.push (.cells (playC none 0 0 false false 0).toArray 56) = h4 at *
  generalize h3.size = PB at *
  refine ldR H4.at3 rfl ?_
  try simp only [nilC, bsx, Nat.reduceAdd, Int.reduceLE, Int.reduceLT, Int.reduceToNat]
  have hcl := (hS h4 _ (show Sat h4 ((pt PB (.cells (playC none 0 0 false false 0).toArray 56) * (pt PR (.cells (playC none 0 0 false false 0).toArray 56) * (pt SB (.cells (scrC c ca cl cc pa pl pc da dl dc).toArray 28) * (pt QB (.cells #[.func (.func f) #[] #[], .int .i64 ins] 37) * machS M Ts m)))) * R) from Sat.ac H4 (by ac_rfl))).cs
  subst hcl
  refine make_in (by omega) ?_
  try simp only [nilC, bsx, Nat.reduceAdd, Int.reduceLE, Int.reduceLT, Int.reduceToNat]
  have H5 := H4.push (.cells ((List.replicate calls.length (0 : Int)).map iv).toArray 3)
  generalize h4.push (.cells ((List.replicate calls.length (0 : Int)).map iv).toArray 3) = h5 at *
  generalize h4.size = NB at *
  refine make_bl (by omega) ?_
  try simp only [nilC, bsx, Nat.reduceAdd, Int.reduceLE, Int.reduceLT, Int.reduceToNat]
  have H6 := H5.push (.cells ((List.replicate calls.length false).map bv).toArray 4)
  generalize h5.push (.cells ((List.replicate calls.length false).map bv).toArray 4) = h6 at *
  generalize h5.size = TB at *
  refine make_cl (by omega) ?_
  try simp only [nilC, bsx, Nat.reduceAdd, Int.reduceLE, Int.reduceLT, Int.reduceToNat]
  have H7 := (H6.push (.cells ((List.replicate calls.length cl0).flatMap clc).toArray 53)).own_new 59 8
  generalize h6.push (.cells ((List.replicate calls.length cl0).flatMap clc).toArray 53) = h7 at *
  generalize h6.size = CB at *
  generalize hs0 : (⟨m, List.replicate calls.length 0, List.replicate calls.length cl0, []⟩ : DS) = s0
  have H8 : Sat h7 (drvS ⟨PB, NB, TB, CB⟩ M Ts calls.length s0 * (pt SB (.cells (scrC c ca calls.length cc pa pl pc da dl dc).toArray 28) * (pt QB (.cells #[.func (.func f) #[] #[], .int .i64 ins] 37) * (pt PR (.cells (playC none 0 0 false false 0).toArray 56) * R)))) := by
    subst hs0
    have H9 : Sat h7 (pt PB (.cells (playC none 0 0 false false 0).toArray 56) * (ownS 59 8 none 0 0 [] * (pt NB (.cells ((List.replicate calls.length (0 : Int)).map iv).toArray 3) * (pt TB (.cells ((List.replicate calls.length false).map bv).toArray 4) * (pt CB (.cells ((List.replicate calls.length cl0).flatMap clc).toArray 53) * (machS M Ts m * (pt SB (.cells (scrC c ca calls.length cc pa pl pc da dl dc).toArray 28) * (pt QB (.cells #[.func (.func f) #[] #[], .int .i64 ins] 37) * (pt PR (.cells (playC none 0 0 false false 0).toArray 56) * R))))))))) := Sat.ac H7 (by ac_rfl)
    exact drvS_iff.2 ⟨none, 0, false, false, 0, List.replicate calls.length false, ⟨by simp, by simp, by simp⟩, H9⟩
  have D8 : DOk Inv calls 0 s0 := by
    subst hs0
    refine ⟨hI, hth, fun k hk => ?_, by simp⟩
    simp [hk]
  clear H1 H2 H3 H4 H5 H6 H7
  have hfold : driveM d ins calls m picks = picks.foldl (fun s k => s.pick d ins calls k) s0 := by subst hs0; rfl
  rw [hfold] at k
  clear hfold hs0
  -- what holds between two picks
  have scr : ∀ {h : Heap} {X : Hp}, Sat h (X * (pt SB (.cells (scrC c ca calls.length cc pa pl pc da dl dc).toArray 28) * (pt QB (.cells #[.func (.func f) #[] #[], .int .i64 ins] 37) * (pt PR (.cells (playC none 0 0 false false 0).toArray 56) * R)))) → h[SB]? = some (.cells (scrC c ca calls.length cc pa pl pc da dl dc).toArray 28) ∧ h[QB]? = some (.cells #[.func (.func f) #[] #[], .int .i64 ins] 37) ∧ ScrF h ca calls.length pa pl calls picks := by
    intro h X H
    refine ⟨H.drop.at, H.drop.drop.at, hS h emp ?_⟩
    rw [emp_star]
    exact H.drop.drop.drop.drop
  obtain ⟨sc1, sq1, sf1⟩ := scr H8
  have hpl := sf1.ps
  subst hpl
  generalize hFR : pt SB (.cells (scrC c ca calls.length cc pa picks.length pc da dl dc).toArray 28) * (pt QB (.cells #[.func (.func f) #[] #[], .int .i64 ins] 37) * (pt PR (.cells (playC none 0 0 false false 0).toArray 56) * R)) = FR at scr H8
  refine ⟨fun vs h' => ∃ (j : Nat) (u1 u2 u3 u4 u5 : Value), vs = [.int .i64 j, u1, u2, u3, u4, u5] ∧ j ≤ picks.length ∧ DOk Inv calls j ((picks.take j).foldl (fun s k => s.pick d ins calls k) s0) ∧ Sat h' (drvS ⟨PB, NB, TB, CB⟩ M Ts calls.length ((picks.take j).foldl (fun s k => s.pick d ins calls k) s0) * FR), fun vs _ => match vs with | [.int _ i, _, _, _, _, _] => (picks.length - i).toNat | _ => 0, ⟨0, _, _, _, _, _, rfl, Nat.zero_le _, D8, H8⟩, ?_⟩
  rintro v21 v22 v23 v24 v25 v26 g27 h28 ⟨j, u1, u2, u3, u4, u5, e, hj, DJ, HJ⟩
  cases e
  clear H8 D8 sc1 sq1 sf1
  generalize hsj : (picks.take j).foldl (fun s k => s.pick d ins calls k) s0 = sj at *
  obtain ⟨sc1, sq1, sf1⟩ := scr HJ
  try simp only [nilC, bsx, Nat.reduceAdd, Int.reduceLE, Int.reduceLT, Int.reduceToNat]
  refine ldR sc1 rfl ?_
  try simp only [nilC, bsx, Nat.reduceAdd, Int.reduceLE, Int.reduceLT, Int.reduceToNat]
  refine ifB_dec (fun c1 => ?_) (fun c1 => ?_)
  · have hjlt : j < picks.length := by omega
    have hpk := S.pk.2 _ (List.getElem_mem hjlt)
    have hnext : (picks.take (j + 1)).foldl (fun s k => s.pick d ins calls k) s0 = sj.pick d ins calls picks[j] := by
      rw [List.take_succ_eq_append_getElem hjlt, List.foldl_append, hsj]
      rfl
    have hj5 : j < 100000 := by have := S.pk.1; omega
    refine ⟨fun vs h' => (∃ w1 w2 w3 w4 w5 : Value, vs = [w1, w2, w3, w4, w5]) ∧ DOk Inv calls (j + 1) (sj.pick d ins calls picks[j]) ∧ Sat h' (drvS ⟨PB, NB, TB, CB⟩ M Ts calls.length (sj.pick d ins calls picks[j]) * FR), ?_, ?_⟩
    · refine ldR sc1 rfl ?_
      try simp only [nilC, bsx, Nat.reduceAdd, Int.reduceLE, Int.reduceLT, Int.reduceToNat]
      refine ⟨by omega, by omega, ?_⟩
      obtain ⟨ad, ea, hc⟩ := sf1.pk j (.int .i64 picks[j]) (by rw [List.getElem?_map, List.getElem?_eq_getElem hjlt]; rfl)
      subst ea
      try simp only [nilC, bsx, Nat.reduceAdd, Int.reduceLE, Int.reduceLT, Int.reduceToNat]
      refine ldH_mk hc ?_
      try simp only [nilC, bsx, Nat.reduceAdd, Int.reduceLE, Int.reduceLT, Int.reduceToNat]
      obtain ⟨kk, hkk⟩ : ∃ kk : Nat, picks[j] = kk := ⟨picks[j].toNat, by omega⟩
      rw [hkk] at hpk ⊢
      have hk2 : kk < calls.length := by omega
      obtain ⟨T, hTk⟩ : ∃ T, Ts[kk]? = some T := ⟨_, List.getElem?_eq_getElem (by omega)⟩
      have hth2 := DJ.th
      obtain ⟨Qm, HM, _⟩ := drvS_mac HJ
      refine callV_fn (thread_call HM (fun hh => by omega) fun T2 _ hT2 => ?_)
      rw [Int.toNat_natCast, hTk] at hT2
      cases hT2
      try simp only [nilC, bsx, Nat.reduceAdd, Int.reduceLE, Int.reduceLT, Int.reduceToNat]
      clear HM
      refine ⟨fun vs h' => (∃ w, vs = [w, .bool false]) ∧ h' = h28, ?_, ?_⟩
      · refine ifB_dec (fun hh => by omega) (fun _ => ?_)
        refine ifB_dec (fun hh => by omega) (fun _ => ?_)
        exact ⟨⟨_, rfl⟩, rfl⟩
      rintro v47 v48 g49 h50 ⟨⟨w, e⟩, rfl⟩
      cases e
      try simp only [nilC, bsx, Nat.reduceAdd, Int.reduceLE, Int.reduceLT, Int.reduceToNat]
      refine ⟨fun _ h' => ∃ s1, sj.enter ins calls kk = some s1 ∧ Inv j s1.m ∧ s1.m.th.length = calls.length ∧ (∀ k, k < calls.length → 0 ≤ s1.nx.getD k 0 ∧ s1.nx.getD k 0 ≤ (calls.getD k []).length) ∧ s1.ev.length ≤ 2 * j + 1 ∧ (thrAt s1.m kk).fr ≠ [] ∧ Sat h' (drvS ⟨PB, NB, TB, CB⟩ M Ts calls.length s1 * FR), ?_, ?_⟩
      · refine callV_fn (drvS_top HJ hTk (by omega) (fun he => ?_) fun b o hne => ?_)
        · have nxk := DJ.nx kk hk2
          have hcN := drvS_nx HJ hk2
          dsimp only at hcN
          obtain ⟨ra, rc, ⟨ad2, ea2, hcr⟩, hrow⟩ := sf1.row kk hk2
          subst ea2
          try simp only [nilC, bsx, Nat.reduceAdd, Int.reduceLE, Int.reduceLT, Int.reduceToNat]
          refine ⟨by omega, by omega, ?_⟩
          refine ldH_mk hcN ?_
          try simp only [nilC, bsx, Nat.reduceAdd, Int.reduceLE, Int.reduceLT, Int.reduceToNat]
          refine ldR sc1 rfl ?_
          try simp only [nilC, bsx, Nat.reduceAdd, Int.reduceLE, Int.reduceLT, Int.reduceToNat]
          refine ⟨by omega, by omega, ?_⟩
          refine ldH_mk hcr ?_
          try simp only [nilC, bsx, Nat.reduceAdd, Int.reduceLE, Int.reduceLT, Int.reduceToNat]
          refine ifB_dec (fun c2 => ?_) (fun c2 => ?_)
          · have hno : sj.enter ins calls kk = none := by
              unfold DS.enter
              rw [if_pos he, if_pos (by omega)]
            have hpick : sj.pick d ins calls (kk : Int) = sj := by
              unfold DS.pick
              rw [Int.toNat_natCast, hno]
            rw [hpick]
            exact ⟨⟨_, _, _, _, _, rfl⟩, ⟨G.mono _ _ DJ.inv, DJ.th, DJ.nx, by have := DJ.ev; omega⟩, HJ⟩
          · refine ldR sc1 rfl ?_
            try simp only [nilC, bsx, Nat.reduceAdd, Int.reduceLE, Int.reduceLT, Int.reduceToNat]
            refine ⟨by omega, by omega, ?_⟩
            refine ldH_mk hcr ?_
            try simp only [nilC, bsx, Nat.reduceAdd, Int.reduceLE, Int.reduceLT, Int.reduceToNat]
            refine ⟨by omega, by omega, ?_⟩
            refine ldH_mk hcN ?_
            try simp only [nilC, bsx, Nat.reduceAdd, Int.reduceLE, Int.reduceLT, Int.reduceToNat]
            refine ⟨by omega, by omega, ?_⟩
            generalize hq : (sj.nx.getD kk 0).toNat = q at *
            have hqlt : q < (calls.getD kk []).length := by omega
            have hcl : (calls.getD kk []).getD q cl0 = (calls.getD kk [])[q] := by rw [List.getD_eq_getElem?_getD, List.getElem?_eq_getElem hqlt]; rfl
            generalize hcc : (calls.getD kk []).getD q cl0 = cq at *
            have g0 := flat_get clc_len hqlt (j := 0) (by omega)
            have g1 := flat_get clc_len hqlt (j := 1) (by omega)
            have g2 := flat_get clc_len hqlt (j := 2) (by omega)
            rw [← hcl] at g0 g1 g2
            obtain ⟨ad3, ea3, hc0⟩ := hrow (q * 3 + 0) (.int .i64 cq.op) g0
            subst ea3
            obtain ⟨_, ea4, hc1⟩ := hrow (q * 3 + 1) (.int .u32 cq.key) g1
            cases ea4
            obtain ⟨_, ea4, hc2⟩ := hrow (q * 3 + 2) (.int .u32 cq.val) g2
            cases ea4
            have aa : ∀ i, (ad3.add (q * 3)).add i = ad3.add (q * 3 + i) := fun i => add_add _ _ _
            rw [Nat.add_zero] at hc0
            have hmem : calls.getD kk [] ∈ calls := by
              have : calls.getD kk [] = calls[kk] := by rw [List.getD_eq_getElem?_getD, List.getElem?_eq_getElem hk2]; rfl
              rw [this]; exact List.getElem_mem hk2
            have hcB := (S.cl _ hmem).2 cq (by rw [hcl]; exact List.getElem_mem hqlt)
            try simp only [nilC, bsx, Nat.reduceAdd, Int.reduceLE, Int.reduceLT, Int.reduceToNat, aa]
            refine ldH_mk hc0 (ldH_mk hc1 (ldH_mk hc2 ?_))
            refine ⟨cell_push hc0, cell_push hc1, cell_push hc2, cell_push hcN, cell_push hcr, cell_push (cellR sc1 rfl), ?_⟩
            have HL := HJ.push (.cells #[.int .i64 0, .int .u32 0, .int .u32 0] 53)
            generalize h50.push (.cells #[.int .i64 0, .int .u32 0, .int .u32 0] 53) = h97 at *
            generalize h50.size = LB at *
            refine st3 (stN_full (vs := clc cq) HL.at rfl (by simp [clc, oneC]) fun h98 w => ?_)
            have HL2 := HL.wr w.new w.old
            clear HL w
            refine ldR HL2.at rfl (ldR HL2.at rfl (ldR HL2.at rfl ?_))
            refine ⟨by omega, by omega, ?_⟩
            rw [star_left] at HL2
            refine drvS_cust HL2 hk2 (c := cq) fun h99 HL3 => ?_
            refine ⟨by omega, by omega, ?_⟩
            have nx3 := drvS_nx HL3 hk2
            dsimp only at nx3
            refine ldH_mk nx3 ?_
            try simp only [nilC, bsx, Nat.reduceAdd, Int.reduceLE, Int.reduceLT, Int.reduceToNat]
            refine ⟨by omega, by omega, ?_⟩
            have hs1 : s64 (sj.nx.getD kk 0 + 1) = sj.nx.getD kk 0 + 1 := by
              have := (S.cl _ hmem).1
              unfold s64; omega
            rw [hs1]
            refine drvS_nxst HL3 hk2 fun h100 HL4 => ?_
            obtain ⟨ea, ec, o, r, bz, OP⟩ := drvS_play HL4
            refine ldR OP rfl ?_
            have O5 := HL4.at2
            refine ldR O5 rfl (ldR O5 rfl (ldR O5 rfl ?_))
            refine drvS_ev HL4 (e := ⟨kk, false, cq, cl0⟩) (by have := DJ.ev; show sj.ev.length ≤ _; omega) (cellAt_of OP 0) fun h101 HL5 => ?_
            have O6 := HL5.at2
            obtain ⟨_, sq6, _⟩ := scr (X := _ * _) (show Sat h101 ((_ * _) * FR) from by rw [star_assoc]; exact HL5)
            refine ldR sq6 rfl ?_
            try simp only [nilC, bsx, Nat.reduceAdd, Int.reduceLE, Int.reduceLT, Int.reduceToNat]
            refine ldR O6 rfl ?_
            try simp only [nilC, bsx, Nat.reduceAdd, Int.reduceLE, Int.reduceLT, Int.reduceToNat]
            refine ldR O6 rfl ?_
            try simp only [nilC, bsx, Nat.reduceAdd, Int.reduceLE, Int.reduceLT, Int.reduceToNat]
            refine ldR O6 rfl ?_
            obtain ⟨⟨op0, op2⟩, hkey, hval⟩ := hcB
            have hu1 : Mod.u64 cq.key = cq.key := by have := hkey.1; have := hkey.2; unfold Mod.u64; omega
            have hu2 : Mod.u64 cq.val = cq.val := by have := hval.1; have := hval.2; unfold Mod.u64; omega
            have hu3 : s64 (ins + cq.op) = ins + cq.op := by unfold s64; omega
            try simp only [nilC, bsx, Nat.reduceAdd, Int.reduceLE, Int.reduceLT, Int.reduceToNat, hu1, hu2, hu3]
            refine callV_fn (drvS_push HL5 hTk hth2 hk2 he ⟨hkey.1, by have := hkey.2; omega⟩ ⟨hval.1, by have := hval.2; omega⟩ _ fun h102 HL6 => ?_)
            refine ⟨by omega, by omega, ?_⟩
            refine drvS_tgst HL6 hk2 fun h103 HL7 => ?_
            obtain ⟨ea7, ec7, o7, r7, bz7, OP7⟩ := drvS_play HL7
            refine ldR OP7 rfl ?_
            try simp only [nilC, bsx, Nat.reduceAdd, Int.reduceLE, Int.reduceLT, Int.reduceToNat]
            refine drvS_busy HL7 fun h104 HL8 => ?_
            refine ⟨_, ?_, ?_, ?_, ?_, ?_, ?_, HL8.drop2⟩
            · unfold DS.enter
              rw [if_pos he, hq, if_neg (by omega), hcc]
            · have hlt : kk < sj.m.th.length := by omega
              exact G.push j sj.m kk (thrAt sj.m kk) cq DJ.inv (by unfold thrAt; rw [List.getElem?_eq_getElem hlt]; simp [hlt]) he ⟨op0, op2⟩ hkey hval
            · show (sj.m.th.set kk _).length = _
              rw [List.length_set]; exact hth2
            · intro k hk
              have := DJ.nx k hk
              show 0 ≤ (sj.nx.set kk _).getD k 0 ∧ (sj.nx.set kk _).getD k 0 ≤ _
              by_cases ek : kk = k
              · subst ek
                rw [List.getD_eq_getElem?_getD, List.getElem?_set]
                split
                · split
                  · simp only [Option.getD_some]; omega
                  · simp only [Option.getD_none]; omega
                · rename_i hh; exact absurd rfl hh
              · rw [List.getD_eq_getElem?_getD, List.getElem?_set_ne ek, ← List.getD_eq_getElem?_getD]
                exact this
            · have := DJ.ev
              show (sj.ev ++ [_]).length ≤ _
              rw [List.length_append]
              simp only [List.length_singleton]
              omega
            · have hlt : kk < sj.m.th.length := by omega
              have e9 : thrAt (sj.m.setTh (sj.m.th.set kk ((thrAt sj.m kk).push (ins + cq.op) [cq.key, cq.val]))) kk = (thrAt sj.m kk).push (ins + cq.op) [cq.key, cq.val] := by
                unfold thrAt Mod.Mac.setTh
                rw [List.getD_eq_getElem?_getD]
                simp [hlt]
              show (thrAt (sj.m.setTh (sj.m.th.set kk ((thrAt sj.m kk).push (ins + cq.op) [cq.key, cq.val]))) kk).fr ≠ []
              rw [e9]
              unfold Mod.Thr.push
              simp
        · try simp only [nilC, bsx, Nat.reduceAdd, Int.reduceLE, Int.reduceLT, Int.reduceToNat]
          refine ⟨sj, ?_, DJ.inv, hth2, DJ.nx, by have := DJ.ev; omega, hne, HJ⟩
          unfold DS.enter
          rw [if_neg hne]
      · rintro g140 h141 ⟨s1, he1, hI1, ht1, hn1, hv1, hf1, H1⟩
        obtain ⟨sc2, sq2, _⟩ := scr H1
        refine ldR sc2 rfl (ldR sc2 rfl (ldR sc2 rfl (ldR sc2 rfl (ldR sc2 rfl (ldR sc2 rfl (ldR sc2 rfl ?_))))))
        refine callV_fn (drvS_room (c := c) G H1 hI1 fun h150 b H2 => ?_)
        obtain ⟨_, sq3, _⟩ := scr H2
        try simp only [nilC, bsx, Nat.reduceAdd, Int.reduceLE, Int.reduceLT, Int.reduceToNat]
        refine ldR sq3 rfl ?_
        refine callV_fn (drvS_step D G H2 hTk ht1 hk2 hI1 hj5 hf1 _ fun h154 z hz hI2 H3 => ?_)
        have hlt : kk < s1.m.th.length := by omega
        have hthr : thrAt (z.m.setTh (s1.m.th.set kk z.t)) kk = z.t := by
          unfold thrAt Mod.Mac.setTh
          rw [List.getD_eq_getElem?_getD]
          simp [hlt]
        have hpick : sj.pick d ins calls (kk : Int) = s1.go d kk := by
          unfold DS.pick
          rw [Int.toNat_natCast, he1]
        rw [hpick]
        have hgo : s1.go d kk = if z.t.fr = [] then ⟨z.m.setTh (s1.m.th.set kk z.t), s1.nx, s1.cu, s1.ev ++ [⟨kk, true, cl0, ansOf z.t⟩]⟩ else ⟨z.m.setTh (s1.m.th.set kk z.t), s1.nx, s1.cu, s1.ev⟩ := by
          unfold DS.go
          rw [← hz]
        rw [hgo]
        have hth3 : (z.m.setTh (s1.m.th.set kk z.t)).th.length = calls.length := by
          show (s1.m.th.set kk z.t).length = _
          rw [List.length_set]; exact ht1
        obtain ⟨s2, hs2⟩ : ∃ s2 : DS, s2 = ⟨z.m.setTh (s1.m.th.set kk z.t), s1.nx, s1.cu, s1.ev⟩ := ⟨_, rfl⟩
        have H3 : Sat h154 (drvS ⟨PB, NB, TB, CB⟩ M Ts calls.length s2 * FR) := by rw [hs2]; exact H3
        have hI3 : Inv (j + 1) s2.m := by rw [hs2]; exact hI2
        have hth4 : s2.m.th.length = calls.length := by rw [hs2]; exact hth3
        have hthr2 : thrAt s2.m kk = z.t := by rw [hs2]; exact hthr
        have hev2 : s2.ev.length ≤ 2 * j + 1 := by rw [hs2]; exact hv1
        try simp only [nilC, bsx, Nat.reduceAdd, Int.reduceLE, Int.reduceLT, Int.reduceToNat]
        refine ⟨fun vs h' => ∃ (b : Bool) (w : Value), vs = [.bool b, w] ∧ Sat h' (drvS ⟨PB, NB, TB, CB⟩ M Ts calls.length s2 * FR), ?_, ?_⟩
        · refine ifB_mk (fun _ => ⟨true, _, rfl, H3⟩) (fun _ => ?_)
          obtain ⟨sc4, _, _⟩ := scr H3
          try simp only [nilC, bsx, Nat.reduceAdd, Int.reduceLE, Int.reduceLT, Int.reduceToNat]
          refine ldR sc4 rfl (ldR sc4 rfl (ldR sc4 rfl (ldR sc4 rfl (ldR sc4 rfl (ldR sc4 rfl (ldR sc4 rfl ?_))))))
          refine callV_fn (drvS_room (c := c) G H3 hI3 fun h165 b2 H4 => ?_)
          try simp only [nilC, bsx, Nat.reduceAdd, Int.reduceLE, Int.reduceLT, Int.reduceToNat]
          exact ⟨_, _, rfl, H4⟩
        rintro v167 v168 g169 h170 ⟨b2, w2, e, H4⟩
        cases e
        refine ⟨fun vs h' => ∃ i : Nat, vs = [.int .i64 i] ∧ i ≤ calls.length ∧ Sat h' (drvS ⟨PB, NB, TB, CB⟩ M Ts calls.length s2 * FR), fun vs _ => match vs with | [.int _ i] => ((calls.length : Int) - i).toNat | _ => 0, ⟨0, rfl, Nat.zero_le _, H4⟩, ?_⟩
        rintro v173 g174 h175 ⟨i, e, hi, H5⟩
        cases e
        try simp only [nilC, bsx, Nat.reduceAdd, Int.reduceLE, Int.reduceLT, Int.reduceToNat]
        refine ifB_dec (fun c3 => ?_) (fun c3 => ?_)
        · have hi2 : i < calls.length := by omega
          refine ⟨fun _ h' => Sat h' (drvS ⟨PB, NB, TB, CB⟩ M Ts calls.length s2 * FR), ?_, ?_⟩
          · refine ⟨by omega, by omega, ?_⟩
            obtain ⟨b3, hb3⟩ := drvS_tg H5 hi2
            refine ldH_mk hb3 ?_
            try simp only [nilC, bsx, Nat.reduceAdd, Int.reduceLE, Int.reduceLT, Int.reduceToNat]
            refine ifB_mk (fun _ => ?_) (fun _ => ?_)
            · refine ⟨by omega, by omega, ?_⟩
              exact drvS_tgst H5 hi2 fun h6 H6 => H6
            · refine ⟨by omega, by omega, ?_⟩
              exact drvS_tgst H5 hi2 fun h6 H6 => H6
          · rintro g188 h189 H6
            rw [s64_nat1 i (by omega)]
            refine ⟨⟨i + 1, rfl, hi2, H6⟩, ?_⟩
            show ((calls.length : Int) - ((i + 1 : Nat) : Int)).toNat < ((calls.length : Int) - (i : Int)).toNat
            omega
        · refine ⟨fun vs h' => (∃ b, vs = [.bool b]) ∧ Sat h' (drvS ⟨PB, NB, TB, CB⟩ M Ts calls.length s2 * FR), ?_, ?_⟩
          · obtain ⟨ea, ec, o, r, bz, OP⟩ := drvS_play H5
            refine ldR OP rfl ?_
            try simp only [nilC, bsx, Nat.reduceAdd, Int.reduceLE, Int.reduceLT, Int.reduceToNat]
            refine ifB_mk (fun _ => ?_) (fun _ => ?_)
            · exact drvS_odd H5 fun h6 H6 => ⟨⟨_, rfl⟩, H6⟩
            · refine callV_fn (drvS_fault H5 fun h6 H6 => ?_)
              try simp only [nilC, bsx, Nat.reduceAdd, Int.reduceLE, Int.reduceLT, Int.reduceToNat]
              exact drvS_odd H6 fun h7 H7 => ⟨⟨_, rfl⟩, H7⟩
          rintro v199 g200 h201 ⟨⟨b4, e⟩, H6⟩
          cases e
          refine ifB_mk (fun c4 => ?_) (fun c4 => ?_)
          · have hz0 : ¬ z.t.fr = [] := by
              intro hh; rw [hh] at c4; cases c4
            rw [if_neg hz0, ← hs2]
            exact ⟨⟨_, _, _, _, _, rfl⟩, ⟨hI3, hth4, by rw [hs2]; exact hn1, by omega⟩, H6⟩
          · have hz0 : z.t.fr = [] := by
              cases hzf : z.t.fr with
              | nil => rfl
              | cons a l => rw [hzf] at c4; cases c4
            rw [if_pos hz0]
            refine callV_fn (drvS_answer H6 hTk (by omega) fun h203 H7 => ?_)
            rw [hthr2]
            try simp only [nilC, bsx, Nat.reduceAdd, Int.reduceLE, Int.reduceLT, Int.reduceToNat]
            refine sizeH_mk rfl (elemH_mk rfl (elemH_mk rfl (elemH_mk rfl ?_)))
            generalize ansOf z.t = an
            have HL := H7.push (.cells #[.int .i64 0, .int .u32 0, .int .u32 0] 49)
            generalize h203.push (.cells #[.int .i64 0, .int .u32 0, .int .u32 0] 49) = h204 at *
            generalize h203.size = LB at *
            refine st3 (stN_full (vs := clc an) HL.at rfl (by simp [clc, oneC]) fun h205 w => ?_)
            have HL2 := HL.wr w.new w.old
            clear HL w
            rw [star_left] at HL2
            obtain ⟨_, _, _, _, bz, OP⟩ := drvS_play HL2
            refine ldR OP rfl ?_
            try simp only [nilC, bsx, Nat.reduceAdd, Int.reduceLE, Int.reduceLT, Int.reduceToNat]
            refine drvS_busy HL2 fun h206 HL3 => ?_
            refine ⟨fun vs h' => (∃ b, vs = [.bool b]) ∧ Sat h' (drvS ⟨PB, NB, TB, CB⟩ M Ts calls.length s2 * (pt LB (.cells (clc an).toArray 49) * FR)), ?_, ?_⟩
            · obtain ⟨_, _, o, _, _, OP⟩ := drvS_play HL3
              refine ldR OP rfl ?_
              try simp only [nilC, bsx, Nat.reduceAdd, Int.reduceLE, Int.reduceLT, Int.reduceToNat]
              refine ifB_mk (fun _ => ?_) (fun _ => ?_)
              · exact drvS_odd HL3 fun h7 H7 => ⟨⟨_, rfl⟩, H7⟩
              · refine ⟨by omega, by omega, ?_⟩
                obtain ⟨cu, e1, e2, e3⟩ := drvS_cu HL3 hk2
                refine ldH_mk e1 (ldH_mk e2 (ldH_mk e3 ?_))
                have OL := HL3.at2
                refine ldR OL rfl (ldR OL rfl (ldR OL rfl ?_))
                refine callV_fn (fitsCl_call (c := cu) (a := an) fun h7 o7 => ?_)
                try simp only [nilC, bsx, Nat.reduceAdd, Int.reduceLE, Int.reduceLT, Int.reduceToNat]
                exact drvS_odd (HL3.old o7) fun h8 H8 => ⟨⟨_, rfl⟩, H8⟩
            rintro v229 g230 h231 ⟨⟨b6, e⟩, HL4⟩
            cases e
            refine ⟨fun vs h' => (∃ w1 w2, vs = [w1, w2]) ∧ Sat h' (drvS ⟨PB, NB, TB, CB⟩ M Ts calls.length s2 * (pt LB (.cells (clc an).toArray 49) * FR)), ?_, ?_⟩
            · obtain ⟨_, _, _, r, _, OP⟩ := drvS_play HL4
              refine ldR OP rfl ?_
              try simp only [nilC, bsx, Nat.reduceAdd, Int.reduceLE, Int.reduceLT, Int.reduceToNat]
              refine ifB_mk (fun _ => ?_) (fun _ => ?_)
              · exact drvS_roomy HL4 fun h7 H7 => ⟨⟨_, _, rfl⟩, H7⟩
              · refine ldR HL4.at2 rfl ?_
                try simp only [nilC, bsx, Nat.reduceAdd, Int.reduceLE, Int.reduceLT, Int.reduceToNat]
                refine ifB_mk (fun _ => ?_) (fun _ => ?_)
                · refine ⟨by omega, by omega, ?_⟩
                  obtain ⟨b7, e7⟩ := drvS_tg HL4 hk2
                  refine ldH_mk e7 ?_
                  try simp only [nilC, bsx, Nat.reduceAdd, Int.reduceLE, Int.reduceLT, Int.reduceToNat]
                  exact drvS_roomy HL4 fun h7 H7 => ⟨⟨_, _, rfl⟩, H7⟩
                · exact drvS_roomy HL4 fun h7 H7 => ⟨⟨_, _, rfl⟩, H7⟩
            rintro v243 v244 g245 h246 ⟨⟨w7, w8, e⟩, HL5⟩
            cases e
            obtain ⟨_, _, _, _, _, OP5⟩ := drvS_play HL5
            refine ldR OP5 rfl ?_
            have OL5 := HL5.at2
            refine ldR OL5 rfl (ldR OL5 rfl (ldR OL5 rfl ?_))
            refine drvS_ev HL5 (e := ⟨kk, true, cl0, an⟩) (by omega) (cellAt_of OP5 0) fun h8 HL6 => ?_
            refine ⟨⟨_, _, _, _, _, rfl⟩, ⟨?_, ?_, ?_, ?_⟩, ?_⟩
            · rw [hs2] at hI3; exact hI3
            · rw [hs2] at hth4; exact hth4
            · exact hn1
            · have h9 : s1.ev.length ≤ 2 * j + 1 := hv1
              show (s1.ev ++ [_]).length ≤ _
              rw [List.length_append]
              simp only [List.length_singleton]
              omega
            · rw [hs2] at HL6
              exact HL6.drop2
    rintro v260 v261 v262 v263 v264 g265 h266 ⟨⟨w1, w2, w3, w4, w5, e⟩, D2, H2⟩
    cases e
    rw [show s64 ((j : Int) + 1) = ((j + 1 : Nat) : Int) from by unfold s64; omega]
    refine ⟨⟨j + 1, _, _, _, _, _, rfl, hjlt, by rw [hnext]; exact D2, by rw [hnext]; exact H2⟩, ?_⟩
    show ((picks.length : Int) - ((j + 1 : Nat) : Int)).toNat < ((picks.length : Int) - (j : Int)).toNat
    omega
  · have ej : picks.take j = picks := List.take_of_length_le (by omega)
    rw [ej] at hsj
    rw [hsj] at k
    rw [← hFR] at HJ
    obtain ⟨ea, ec, o, r, bz, tg, hl, HQ⟩ := drvS_iff.1 HJ
    dsimp only at HQ
    have O := HQ.at
    have HP : Sat h28 (pt PB (.cells (playC ea sj.ev.length ec o r bz).toArray 56) * (pt NB (.cells (sj.nx.map iv).toArray 3) * (pt TB (.cells (tg.map bv).toArray 4) * (pt CB (.cells (sj.cu.flatMap clc).toArray 53) * (pt SB (.cells (scrC c ca calls.length cc pa picks.length pc da dl dc).toArray 28) * (pt QB (.cells #[.func (.func f) #[] #[], .int .i64 ins] 37) * (pt PR (.cells (playC none 0 0 false false 0).toArray 56) * (ownS 59 8 ea sj.ev.length ec (sj.ev.flatMap evc) * (machS M Ts sj.m * R))))))))) := Sat.ac HQ (by ac_rfl)
    have HR := HP.drop.drop.drop.drop.drop.drop
    refine ldR O rfl (ldR O rfl (ldR O rfl (ldR O rfl ?_)))
    refine HR.st (i := 0) rfl trivial fun h1 HR1 => ?_
    refine HR1.st (i := 1) rfl trivial fun h2 HR2 => ?_
    refine HR2.st (i := 2) rfl trivial fun h3 HR3 => ?_
    refine HR3.st (i := 3) rfl trivial fun h4 HR4 => ?_
    refine HR4.ld rfl (HR4.ld rfl (HR4.ld rfl (HR4.ld rfl ?_)))
    exact k h4 ea ec o r bz HR4.drop
end
end
end Go.Proofs.YtglgifgoojncpaaGreat
