/- Part 10 of what the proofs of this seat rest on: see the last text of the claim. -/
import Derived.Test.YtglgifgoojncpaaGreatQ9a59762f6835
import Derived.Test.YtglgifgoojncpaaGreatProg
set_option linter.unusedSimpArgs false
set_option linter.unusedVariables false
set_option linter.ambiguousOpen false
set_option maxRecDepth 20000
namespace Go.Proofs.YtglgifgoojncpaaGreat
section
set_option maxRecDepth 100000
def F28 (K : Value → Heap → Prop) (h : Heap) (xa xb : Option Addr) : Prop :=
  (cf 42 #[.pointer xb] h fun v0 h1 => asPtrO v0 fun o2 => exI fun I3 => (ifB (Option.isNone o2) (I3 [.bool true] h1) (I3 [.bool (Option.isNone xa)] h1)) ∧ (∀ (v4 : Value) (g5 : Env) (h6 : Heap), (I3 [v4] h6) → (asBool v4 fun b7 => ifB b7 (K (.tuple #[]) h6) (stH (Array.push h6 (.cells #[.pointer none, .pointer none, .pointer none] 118)) ⟨h6.size, 0, none⟩ (.pointer xa) fun h8 => stH h8 ⟨h6.size, 1, none⟩ (.pointer xb) fun h9 => stH h9 ⟨h6.size, 2, none⟩ (.pointer o2) fun h10 => exI fun I11 => (nP o2 fun a12 => lI .i64 h10 a12 fun n14 => ifB (decide (n14 < 31)) (I11 [.bool true, .bool true] h10) (nP o2 fun a15 => lI .i64 h10 a15 fun n17 => I11 [.bool (decide (n17 > 36)), .bool (decide (n17 > 36))] h10)) ∧ (∀ (v18 v19 : Value) (g20 : Env) (h21 : Heap), (I11 [v18, v19] h21) → (asBool v18 fun b22 => ifB b22 (cf 55 #[.pointer xa, .pointer xb] h21 fun v23 h24 => K (.tuple #[]) h24) (nP o2 fun a25 => lI .i64 h21 (Addr.add a25 1) fun n27 => ifB (n27 == 90) (nP o2 fun a28 => bd 7 10 (lI .u64 h21 (Addr.add a28 9) fun n30 => nP o2 fun a31 => bd 8 10 (lI .u64 h21 (Addr.add a31 10) fun n33 => nP o2 fun a34 => bd 9 10 (lI .u64 h21 (Addr.add a34 11) fun n36 => cf 44 #[.pointer xb, .slice (some ⟨h21.size, 0, none⟩) 3 3] (Array.push h21 (.cells #[.int .u64 n30, .int .u64 n33, .int .u64 n36] 65)) fun v37 h38 => K (.tuple #[]) h38)))) (nP o2 fun a39 => lI .i64 h21 a39 fun n41 => ifB (n41 == 31) (ldH h21 ⟨h6.size, 0, none⟩ fun v42 => ldH h21 ⟨h6.size, 1, none⟩ fun v43 => ldH h21 ⟨h6.size, 2, none⟩ fun v44 => cf 56 #[.agg #[v42, v43, v44]] h21 fun v45 h46 => K (.tuple #[]) h46) (nP o2 fun a47 => lI .i64 h21 a47 fun n49 => ifB (n49 == 34) (ldH h21 ⟨h6.size, 0, none⟩ fun v50 => ldH h21 ⟨h6.size, 1, none⟩ fun v51 => ldH h21 ⟨h6.size, 2, none⟩ fun v52 => cf 57 #[.agg #[v50, v51, v52]] h21 fun v53 h54 => K (.tuple #[]) h54) (nP o2 fun a55 => lI .i64 h21 a55 fun n57 => ifB (n57 == 35) (ldH h21 ⟨h6.size, 0, none⟩ fun v58 => ldH h21 ⟨h6.size, 1, none⟩ fun v59 => ldH h21 ⟨h6.size, 2, none⟩ fun v60 => cf 58 #[.agg #[v58, v59, v60]] h21 fun v61 h62 => K (.tuple #[]) h62) (nP o2 fun a63 => lI .i64 h21 a63 fun n65 => ifB (n65 == 36) (ldH h21 ⟨h6.size, 0, none⟩ fun v66 => ldH h21 ⟨h6.size, 1, none⟩ fun v67 => ldH h21 ⟨h6.size, 2, none⟩ fun v68 => cf 59 #[.agg #[v66, v67, v68]] h21 fun v69 h70 => K (.tuple #[]) h70) (ldH h21 ⟨h6.size, 0, none⟩ fun v71 => ldH h21 ⟨h6.size, 1, none⟩ fun v72 => ldH h21 ⟨h6.size, 2, none⟩ fun v73 => cf 60 #[.agg #[v71, v72, v73]] h21 fun v74 h75 => K (.tuple #[]) h75))))))))))))
theorem call28 {K : Value → Heap → Prop} {h : Heap} {xa xb : Option Addr} (H : F28 K h xa xb) : CallH Tryz.prog 28 #[(.pointer xa), (.pointer xb)] h K :=
  callH_mk Tryz.func28 (by kernel_rfl) (Eq.mp (by kernel_rfl) H)
def F55 (K : Value → Heap → Prop) (h : Heap) (xa xb : Option Addr) : Prop :=
  (cf 42 #[.pointer xb] h fun v0 h1 => asPtrO v0 fun o2 => exI fun I3 => (ifB (Option.isNone o2) (I3 [.bool true, .bool true] h1) (I3 [.bool (Option.isNone xa), .bool (Option.isNone xa)] h1)) ∧ (∀ (v4 v5 : Value) (g6 : Env) (h7 : Heap), (I3 [v4, v5] h7) → (asBool v4 fun b8 => ifB b8 (K (.tuple #[]) h7) (nP o2 fun a9 => lI .i64 h7 a9 fun n11 => ifB (n11 == 30) (cf 104 #[.agg #[.pointer xa, .pointer xb, .pointer o2]] h7 fun v12 h13 => K (.tuple #[]) h13) (cf 54 #[.pointer xa, .pointer xb] h7 fun v14 h15 => K (.tuple #[]) h15)))))
theorem call55 {K : Value → Heap → Prop} {h : Heap} {xa xb : Option Addr} (H : F55 K h xa xb) : CallH Tryz.prog 55 #[(.pointer xa), (.pointer xb)] h K :=
  callH_mk Tryz.func55 (by kernel_rfl) (Eq.mp (by kernel_rfl) H)
abbrev g56 (K : Value → Heap → Prop) (h H1 : Heap) : Prop :=
  (lP H1 (Addr.add ⟨h.size, 0, none⟩ 2) fun o1 => nP o1 fun a2 => lI .i64 H1 (Addr.add a2 1) fun n4 => ifB (decide (n4 ≤ 2)) (ldH H1 ⟨h.size, 0, none⟩ fun v5 => ldH H1 ⟨h.size, 1, none⟩ fun v6 => ldH H1 ⟨h.size, 2, none⟩ fun v7 => cf 105 #[.agg #[v5, v6, v7]] H1 fun v8 h9 => K (.tuple #[]) h9) (lP H1 (Addr.add ⟨h.size, 0, none⟩ 2) fun o11 => nP o11 fun a12 => lI .i64 H1 (Addr.add a12 1) fun n14 => ifB (decide (n14 ≤ 6)) (ldH H1 ⟨h.size, 0, none⟩ fun v15 => ldH H1 ⟨h.size, 1, none⟩ fun v16 => ldH H1 ⟨h.size, 2, none⟩ fun v17 => cf 106 #[.agg #[v15, v16, v17]] H1 fun v18 h19 => K (.tuple #[]) h19) (lP H1 (Addr.add ⟨h.size, 0, none⟩ 2) fun o21 => nP o21 fun a22 => lI .i64 H1 (Addr.add a22 1) fun n24 => ifB (decide (n24 ≤ 10)) (ldH H1 ⟨h.size, 0, none⟩ fun v25 => ldH H1 ⟨h.size, 1, none⟩ fun v26 => ldH H1 ⟨h.size, 2, none⟩ fun v27 => cf 107 #[.agg #[v25, v26, v27]] H1 fun v28 h29 => K (.tuple #[]) h29) (lP H1 (Addr.add ⟨h.size, 0, none⟩ 2) fun o31 => nP o31 fun a32 => lI .i64 H1 (Addr.add a32 1) fun n34 => ifB (decide (n34 ≤ 14)) (ldH H1 ⟨h.size, 0, none⟩ fun v35 => ldH H1 ⟨h.size, 1, none⟩ fun v36 => ldH H1 ⟨h.size, 2, none⟩ fun v37 => cf 108 #[.agg #[v35, v36, v37]] H1 fun v38 h39 => K (.tuple #[]) h39) (ldH H1 ⟨h.size, 0, none⟩ fun v40 => ldH H1 ⟨h.size, 1, none⟩ fun v41 => ldH H1 ⟨h.size, 2, none⟩ fun v42 => cf 109 #[.agg #[v40, v41, v42]] H1 fun v43 h44 => K (.tuple #[]) h44)))))
def F56 (K : Value → Heap → Prop) (h : Heap) (xa xb xc : Option Addr) : Prop :=
  (g56 K h (Array.push h (.cells #[.pointer xa, .pointer xb, .pointer xc] 120)))
theorem call56 {K : Value → Heap → Prop} {h : Heap} {xa xb xc : Option Addr} (H : F56 K h xa xb xc) : CallH Tryz.prog 56 #[(.agg #[(.pointer xa), (.pointer xb), (.pointer xc)])] h K :=
  callH_mk Tryz.func56 (by kernel_rfl) (Eq.mp (by kernel_rfl) H)
abbrev g57 (K : Value → Heap → Prop) (h H1 : Heap) : Prop :=
  (lP H1 (Addr.add ⟨h.size, 0, none⟩ 2) fun o1 => nP o1 fun a2 => lI .i64 H1 (Addr.add a2 1) fun n4 => ifB (n4 == 0) (ldH H1 ⟨h.size, 0, none⟩ fun v5 => asPtrO v5 fun o6 => ldH H1 ⟨h.size, 0, none⟩ fun v7 => ldH H1 (Addr.add ⟨h.size, 0, none⟩ 1) fun v8 => ldH H1 (Addr.add ⟨h.size, 0, none⟩ 2) fun v9 => nP o1 fun a10 => cf 110 #[.agg #[v7, v8, v9], .int .u64 1, .int .u64 0] H1 fun v11 h12 => asInt .i64 v11 fun n13 => ce h12 h.size 0 v5 (cf 85 #[.pointer o6, .int .i64 n13] h12 fun v14 h15 => asInt .u64 v14 fun n16 => bd 0 10 (stH h15 (Addr.add a10 2) (.int .u64 n16) fun h17 => nP o1 fun a18 => bd 0 10 (lI .u64 h17 (Addr.add a18 2) fun n20 => nP o1 fun a21 => bd 0 10 (ldH h17 (Addr.add a21 2) fun v22 => asInt .u64 v22 fun n23 => nP o1 fun a24 => nP o1 fun a25 => cf 111 #[.int .u64 n20] h17 fun v26 h27 => asInt .u64 v26 fun n28 => ((cellAt h27 (Addr.add a21 2)) = (some v22)) ∧ (cf 111 #[.int .u64 n23] h27 fun v29 h30 => asInt .u64 v29 fun n31 => bd 1 10 (stH h30 (Addr.add a24 3) (.int .u64 n28) fun h32 => bd 2 10 (stH h32 (Addr.add a25 4) (.int .u64 n31) fun h33 => nP o1 fun a34 => stH h33 (Addr.add a34 1) (.int .i64 1) fun h35 => nP o1 fun a36 => bd 0 10 (lI .u64 h35 (Addr.add a36 2) fun n38 => cf 112 #[.int .u64 n38] h35 fun v39 h40 => asBool v39 fun b41 => ifB (!b41) (ldH h40 ⟨h.size, 0, none⟩ fun v42 => ldH h40 (Addr.add ⟨h.size, 0, none⟩ 1) fun v43 => ldH h40 (Addr.add ⟨h.size, 0, none⟩ 2) fun v44 => cf 113 #[.agg #[v42, v43, v44], .int .u64 0] h40 fun v45 h46 => K (.tuple #[]) h46) (K (.tuple #[]) h40)))))))))) (ifB (n4 == 1) (ldH H1 ⟨h.size, 0, none⟩ fun v47 => asPtrO v47 fun o48 => ldH H1 ⟨h.size, 0, none⟩ fun v49 => ldH H1 (Addr.add ⟨h.size, 0, none⟩ 1) fun v50 => ldH H1 (Addr.add ⟨h.size, 0, none⟩ 2) fun v51 => nP o1 fun a52 => bd 1 10 (lI .u64 H1 (Addr.add a52 3) fun n54 => cf 110 #[.agg #[v49, v50, v51], .int .u64 n54, .int .u64 0] H1 fun v55 h56 => asInt .i64 v55 fun n57 => ce h56 h.size 0 v47 (cf 85 #[.pointer o48, .int .i64 n57] h56 fun v58 h59 => asInt .u64 v58 fun n60 => nP o1 fun a61 => cf 111 #[.int .u64 n60] h59 fun v62 h63 => asInt .u64 v62 fun n64 => bd 2 10 (stH h63 (Addr.add a61 4) (.int .u64 n64) fun h65 => nP o1 fun a66 => stH h65 (Addr.add a66 1) (.int .i64 2) fun h67 => cf 112 #[.int .u64 n60] h67 fun v68 h69 => asBool v68 fun b70 => ifB b70 (nP o1 fun a71 => cf 111 #[.int .u64 n60] h69 fun v72 h73 => asInt .u64 v72 fun n74 => bd 1 10 (stH h73 (Addr.add a71 3) (.int .u64 n74) fun h75 => nP o1 fun a76 => stH h75 (Addr.add a76 1) (.int .i64 1) fun h77 => K (.tuple #[]) h77)) (K (.tuple #[]) h69))))) (ifB (n4 == 2) (ldH H1 ⟨h.size, 0, none⟩ fun v78 => ldH H1 (Addr.add ⟨h.size, 0, none⟩ 1) fun v79 => ldH H1 (Addr.add ⟨h.size, 0, none⟩ 2) fun v80 => nP o1 fun a81 => bd 1 10 (lI .u64 H1 (Addr.add a81 3) fun n83 => ((cellAt (Array.push H1 (.cells #[.int .u64 n83] 65)) ⟨h.size, 0, none⟩) = (some v78)) ∧ (((cellAt (Array.push H1 (.cells #[.int .u64 n83] 65)) (Addr.add ⟨h.size, 0, none⟩ 1)) = (some v79)) ∧ (((cellAt (Array.push H1 (.cells #[.int .u64 n83] 65)) (Addr.add ⟨h.size, 0, none⟩ 2)) = (some v80)) ∧ (cf 114 #[.agg #[v78, v79, v80], .int .i64 3, .int .i64 36, .slice (some ⟨H1.size, 0, none⟩) 1 1] (Array.push H1 (.cells #[.int .u64 n83] 65)) fun v84 h85 => K (.tuple #[]) h85))))) (ifB (n4 == 3) (ldH H1 ⟨h.size, 0, none⟩ fun v86 => ldH H1 (Addr.add ⟨h.size, 0, none⟩ 1) fun v87 => ldH H1 (Addr.add ⟨h.size, 0, none⟩ 2) fun v88 => ldH H1 ⟨h.size, 0, none⟩ fun v89 => ldH H1 (Addr.add ⟨h.size, 0, none⟩ 1) fun v90 => ldH H1 (Addr.add ⟨h.size, 0, none⟩ 2) fun v91 => nP o1 fun a92 => bd 0 10 (ldH H1 (Addr.add a92 2) fun v93 => asInt .u64 v93 fun n94 => nP o1 fun a95 => bd 2 10 (ldH H1 (Addr.add a95 4) fun v96 => asInt .u64 v96 fun n97 => cf 110 #[.agg #[v89, v90, v91], .int .u64 1, .int .u64 0] H1 fun v98 h99 => asInt .i64 v98 fun n100 => ((cellAt h99 (Addr.add a95 4)) = (some v96)) ∧ (((cellAt h99 (Addr.add a92 2)) = (some v93)) ∧ (ce h99 h.size 0 v86 (((cellAt h99 (Addr.add ⟨h.size, 0, none⟩ 1)) = (some v87)) ∧ (((cellAt h99 (Addr.add ⟨h.size, 0, none⟩ 2)) = (some v88)) ∧ (cf 115 #[.agg #[v86, v87, v88], .int .i64 n100, .int .u64 n94, .int .u64 n97, .bool false] h99 fun v101 h102 => asBool v101 fun b103 => nP o1 fun a104 => stH h102 (Addr.add a104 1) (.int .i64 4) fun h105 => K (.tuple #[]) h105)))))))) (ifB (n4 == 4) (ldH H1 ⟨h.size, 0, none⟩ fun v106 => ldH H1 (Addr.add ⟨h.size, 0, none⟩ 1) fun v107 => ldH H1 (Addr.add ⟨h.size, 0, none⟩ 2) fun v108 => nP o1 fun a109 => bd 0 10 (lI .u64 H1 (Addr.add a109 2) fun n111 => nP o1 fun a112 => bd 2 10 (ldH H1 (Addr.add a112 4) fun v113 => asInt .u64 v113 fun n114 => cf 111 #[.int .u64 n111] H1 fun v115 h116 => asInt .u64 v115 fun n117 => ((cellAt h116 (Addr.add a112 4)) = (some v113)) ∧ (ce h116 h.size 0 v106 (((cellAt h116 (Addr.add ⟨h.size, 0, none⟩ 1)) = (some v107)) ∧ (((cellAt h116 (Addr.add ⟨h.size, 0, none⟩ 2)) = (some v108)) ∧ (((cellAt (Array.push h116 (.cells #[.int .u64 n117, .int .u64 n114] 65)) ⟨h.size, 0, none⟩) = (some v106)) ∧ (((cellAt (Array.push h116 (.cells #[.int .u64 n117, .int .u64 n114] 65)) (Addr.add ⟨h.size, 0, none⟩ 1)) = (some v107)) ∧ (((cellAt (Array.push h116 (.cells #[.int .u64 n117, .int .u64 n114] 65)) (Addr.add ⟨h.size, 0, none⟩ 2)) = (some v108)) ∧ (cf 114 #[.agg #[v106, v107, v108], .int .i64 5, .int .i64 35, .slice (some ⟨h116.size, 0, none⟩) 2 2] (Array.push h116 (.cells #[.int .u64 n117, .int .u64 n114] 65)) fun v118 h119 => K (.tuple #[]) h119)))))))))) (ldH H1 ⟨h.size, 0, none⟩ fun v120 => ldH H1 (Addr.add ⟨h.size, 0, none⟩ 1) fun v121 => ldH H1 (Addr.add ⟨h.size, 0, none⟩ 2) fun v122 => cf 113 #[.agg #[v120, v121, v122], .int .u64 0] H1 fun v123 h124 => K (.tuple #[]) h124))))))
def F57 (K : Value → Heap → Prop) (h : Heap) (xa xb xc : Option Addr) : Prop :=
  (g57 K h (Array.push h (.cells #[.pointer xa, .pointer xb, .pointer xc] 121)))
theorem call57 {K : Value → Heap → Prop} {h : Heap} {xa xb xc : Option Addr} (H : F57 K h xa xb xc) : CallH Tryz.prog 57 #[(.agg #[(.pointer xa), (.pointer xb), (.pointer xc)])] h K :=
  callH_mk Tryz.func57 (by kernel_rfl) (Eq.mp (by kernel_rfl) H)
abbrev g58 (K : Value → Heap → Prop) (h H1 : Heap) : Prop :=
  (lP H1 (Addr.add ⟨h.size, 0, none⟩ 2) fun o1 => nP o1 fun a2 => lI .i64 H1 (Addr.add a2 1) fun n4 => ifB (n4 == 0) (lP H1 ⟨h.size, 0, none⟩ fun o6 => cf 116 #[.pointer o6, .int .i64 1, .int .u64 1] H1 fun v7 h8 => asInt .u64 v7 fun n9 => nP o1 fun a10 => stH h8 (Addr.add a10 1) (.int .i64 1) fun h11 => K (.tuple #[]) h11) (ifB (n4 == 1) (nP o1 fun a12 => bd 0 10 (lI .u64 H1 (Addr.add a12 2) fun n14 => nP o1 fun a15 => bd 1 10 (lI .u64 H1 (Addr.add a15 3) fun n17 => ifB (n14 == n17) (lP H1 (Addr.add ⟨h.size, 0, none⟩ 1) fun o19 => cf 44 #[.pointer o19, .slice none 0 0] H1 fun v20 h21 => K (.tuple #[]) h21) (ldH H1 ⟨h.size, 0, none⟩ fun v22 => asPtrO v22 fun o23 => ldH H1 ⟨h.size, 0, none⟩ fun v24 => ldH H1 (Addr.add ⟨h.size, 0, none⟩ 1) fun v25 => ldH H1 (Addr.add ⟨h.size, 0, none⟩ 2) fun v26 => nP o1 fun a27 => bd 0 10 (lI .u64 H1 (Addr.add a27 2) fun n29 => nP o1 fun a30 => cf 110 #[.agg #[v24, v25, v26], .int .u64 n29, .int .u64 0] H1 fun v31 h32 => asInt .i64 v31 fun n33 => ce h32 h.size 0 v22 (cf 85 #[.pointer o23, .int .i64 n33] h32 fun v34 h35 => asInt .u64 v34 fun n36 => cf 111 #[.int .u64 n36] h35 fun v37 h38 => asInt .u64 v37 fun n39 => bd 2 10 (stH h38 (Addr.add a30 4) (.int .u64 n39) fun h40 => nP o1 fun a41 => stH h40 (Addr.add a41 1) (.int .i64 2) fun h42 => K (.tuple #[]) h42))))))) (nP o1 fun a43 => bd 0 10 (lI .u64 H1 (Addr.add a43 2) fun n45 => nP o1 fun a46 => bd 2 10 (lI .u64 H1 (Addr.add a46 4) fun n48 => nP o1 fun a49 => bd 0 10 (stH H1 (Addr.add a49 2) (.int .u64 n48) fun h50 => ldH h50 ⟨h.size, 0, none⟩ fun v51 => ldH h50 (Addr.add ⟨h.size, 0, none⟩ 1) fun v52 => ldH h50 (Addr.add ⟨h.size, 0, none⟩ 2) fun v53 => cf 114 #[.agg #[v51, v52, v53], .int .i64 1, .int .i64 5, .slice (some ⟨h50.size, 0, none⟩) 1 1] (Array.push h50 (.cells #[.int .u64 n45] 65)) fun v54 h55 => K (.tuple #[]) h55))))))
def F58 (K : Value → Heap → Prop) (h : Heap) (xa xb xc : Option Addr) : Prop :=
  (g58 K h (Array.push h (.cells #[.pointer xa, .pointer xb, .pointer xc] 122)))
theorem call58 {K : Value → Heap → Prop} {h : Heap} {xa xb xc : Option Addr} (H : F58 K h xa xb xc) : CallH Tryz.prog 58 #[(.agg #[(.pointer xa), (.pointer xb), (.pointer xc)])] h K :=
  callH_mk Tryz.func58 (by kernel_rfl) (Eq.mp (by kernel_rfl) H)
abbrev g59 (K : Value → Heap → Prop) (h H1 : Heap) : Prop :=
  (lP H1 (Addr.add ⟨h.size, 0, none⟩ 2) fun o1 => nP o1 fun a2 => lI .i64 H1 (Addr.add a2 1) fun n4 => ifB (n4 == 0) (lP H1 ⟨h.size, 0, none⟩ fun o6 => nP o1 fun a7 => cf 85 #[.pointer o6, .int .i64 1] H1 fun v8 h9 => asInt .u64 v8 fun n10 => bd 1 10 (stH h9 (Addr.add a7 3) (.int .u64 n10) fun h11 => lP h11 ⟨h.size, 0, none⟩ fun o13 => nP o1 fun a14 => cf 117 #[.pointer o13] h11 fun v15 h16 => asAgg v15 fun vs17 => sizeH vs17 15 (elemH vs17 0 fun v18 => elemH vs17 1 fun v19 => elemH vs17 2 fun v20 => elemH vs17 3 fun v21 => elemH vs17 4 fun v22 => elemH vs17 5 fun v23 => elemH vs17 6 fun v24 => elemH vs17 7 fun v25 => elemH vs17 8 fun v26 => elemH vs17 9 fun v27 => elemH vs17 10 fun v28 => elemH vs17 11 fun v29 => elemH vs17 12 fun v30 => elemH vs17 13 fun v31 => elemH vs17 14 fun v32 => cf 62 #[.agg #[v18, v19, v20, v21, v22, v23, v24, v25, v26, v27, v28, v29, v30, v31, v32]] h16 fun v33 h34 => asAgg v33 fun vs35 => sizeH vs35 7 (elemH vs35 0 fun v36 => elemH vs35 1 fun v37 => elemH vs35 2 fun v38 => elemH vs35 3 fun v39 => elemH vs35 4 fun v40 => elemH vs35 5 fun v41 => elemH vs35 6 fun v42 => asInt .i64 v39 fun n43 => bd 2 10 (stH h34 (Addr.add a14 4) (.int .u64 (IntKind.wrap .u64 (IntKind.wrap .i64 (n43 - 1)))) fun h44 => nP o1 fun a45 => stH h44 (Addr.add a45 1) (.int .i64 1) fun h46 => K (.tuple #[]) h46))))) (ifB (n4 == 1) (nP o1 fun a47 => bd 2 10 (lI .u64 H1 (Addr.add a47 4) fun n49 => ifB (n49 == 0) (lP H1 (Addr.add ⟨h.size, 0, none⟩ 1) fun o51 => cf 44 #[.pointer o51, .slice none 0 0] H1 fun v52 h53 => K (.tuple #[]) h53) (ldH H1 ⟨h.size, 0, none⟩ fun v54 => asPtrO v54 fun o55 => ldH H1 ⟨h.size, 0, none⟩ fun v56 => ldH H1 (Addr.add ⟨h.size, 0, none⟩ 1) fun v57 => ldH H1 (Addr.add ⟨h.size, 0, none⟩ 2) fun v58 => nP o1 fun a59 => bd 2 10 (lI .u64 H1 (Addr.add a59 4) fun n61 => nP o1 fun a62 => cf 110 #[.agg #[v56, v57, v58], .int .u64 1, .int .u64 n61] H1 fun v63 h64 => asInt .i64 v63 fun n65 => ce h64 h.size 0 v54 (cf 85 #[.pointer o55, .int .i64 n65] h64 fun v66 h67 => asInt .u64 v66 fun n68 => bd 3 10 (stH h67 (Addr.add a62 5) (.int .u64 n68) fun h69 => nP o1 fun a70 => bd 3 10 (lI .u64 h69 (Addr.add a70 5) fun n72 => nP o1 fun a73 => cf 111 #[.int .u64 n72] h69 fun v74 h75 => asInt .u64 v74 fun n76 => bd 4 10 (stH h75 (Addr.add a73 6) (.int .u64 n76) fun h77 => nP o1 fun a78 => stH h77 (Addr.add a78 1) (.int .i64 2) fun h79 => nP o1 fun a80 => bd 4 10 (lI .u64 h79 (Addr.add a80 6) fun n82 => ifB (n82 == 2) (ldH h79 ⟨h.size, 0, none⟩ fun v83 => ldH h79 ⟨h.size, 1, none⟩ fun v84 => ldH h79 ⟨h.size, 2, none⟩ fun v85 => cf 118 #[.agg #[v83, v84, v85]] h79 fun v86 h87 => K (.tuple #[]) h87) (K (.tuple #[]) h79)))))))))) (ifB (n4 == 2) (ldH H1 ⟨h.size, 0, none⟩ fun v88 => ldH H1 (Addr.add ⟨h.size, 0, none⟩ 1) fun v89 => ldH H1 (Addr.add ⟨h.size, 0, none⟩ 2) fun v90 => nP o1 fun a91 => bd 5 10 (lI .u64 H1 (Addr.add a91 7) fun n93 => nP o1 fun a94 => bd 4 10 (lI .u64 H1 (Addr.add a94 6) fun n96 => cf 119 #[.agg #[v88, v89, v90], .int .u64 n93, .int .u64 n96] H1 fun v97 h98 => nP o1 fun a99 => bd 5 10 (lI .u64 h98 (Addr.add a99 7) fun n101 => nP o1 fun a102 => bd 5 10 (stH h98 (Addr.add a102 7) (.int .u64 (IntKind.wrap .u64 (n101 + 1))) fun h103 => nP o1 fun a104 => stH h103 (Addr.add a104 1) (.int .i64 3) fun h105 => K (.tuple #[]) h105))))) (ifB (n4 == 3) (nP o1 fun a106 => stH H1 (Addr.add a106 1) (.int .i64 4) fun h107 => lP h107 ⟨h.size, 0, none⟩ fun o109 => nP o1 fun a110 => bd 1 10 (ldH h107 (Addr.add a110 3) fun v111 => asInt .u64 v111 fun n112 => cf 85 #[.pointer o109, .int .i64 1] h107 fun v113 h114 => asInt .u64 v113 fun n115 => ((cellAt h114 (Addr.add a110 3)) = (some v111)) ∧ (ifB (n115 != n112) (nP o1 fun a116 => stH h114 (Addr.add a116 1) (.int .i64 0) fun h117 => K (.tuple #[]) h117) (K (.tuple #[]) h114)))) (ldH H1 ⟨h.size, 0, none⟩ fun v118 => ldH H1 ⟨h.size, 1, none⟩ fun v119 => ldH H1 ⟨h.size, 2, none⟩ fun v120 => cf 120 #[.agg #[v118, v119, v120]] H1 fun v121 h122 => K (.tuple #[]) h122)))))
def F59 (K : Value → Heap → Prop) (h : Heap) (xa xb xc : Option Addr) : Prop :=
  (g59 K h (Array.push h (.cells #[.pointer xa, .pointer xb, .pointer xc] 123)))
theorem call59 {K : Value → Heap → Prop} {h : Heap} {xa xb xc : Option Addr} (H : F59 K h xa xb xc) : CallH Tryz.prog 59 #[(.agg #[(.pointer xa), (.pointer xb), (.pointer xc)])] h K :=
  callH_mk Tryz.func59 (by kernel_rfl) (Eq.mp (by kernel_rfl) H)
abbrev g60 (K : Value → Heap → Prop) (h H1 : Heap) : Prop :=
  (lP H1 (Addr.add ⟨h.size, 0, none⟩ 2) fun o1 => nP o1 fun a2 => lI .i64 H1 (Addr.add a2 1) fun n4 => ifB (decide (n4 ≤ 4)) (ldH H1 ⟨h.size, 0, none⟩ fun v5 => ldH H1 ⟨h.size, 1, none⟩ fun v6 => ldH H1 ⟨h.size, 2, none⟩ fun v7 => cf 121 #[.agg #[v5, v6, v7]] H1 fun v8 h9 => K (.tuple #[]) h9) (lP H1 (Addr.add ⟨h.size, 0, none⟩ 2) fun o11 => nP o11 fun a12 => lI .i64 H1 (Addr.add a12 1) fun n14 => ifB (decide (n14 ≤ 8)) (ldH H1 ⟨h.size, 0, none⟩ fun v15 => ldH H1 ⟨h.size, 1, none⟩ fun v16 => ldH H1 ⟨h.size, 2, none⟩ fun v17 => cf 122 #[.agg #[v15, v16, v17]] H1 fun v18 h19 => K (.tuple #[]) h19) (lP H1 (Addr.add ⟨h.size, 0, none⟩ 2) fun o21 => nP o21 fun a22 => lI .i64 H1 (Addr.add a22 1) fun n24 => ifB (decide (n24 ≤ 10)) (ldH H1 ⟨h.size, 0, none⟩ fun v25 => ldH H1 ⟨h.size, 1, none⟩ fun v26 => ldH H1 ⟨h.size, 2, none⟩ fun v27 => cf 123 #[.agg #[v25, v26, v27]] H1 fun v28 h29 => K (.tuple #[]) h29) (ldH H1 ⟨h.size, 0, none⟩ fun v30 => ldH H1 ⟨h.size, 1, none⟩ fun v31 => ldH H1 ⟨h.size, 2, none⟩ fun v32 => cf 124 #[.agg #[v30, v31, v32]] H1 fun v33 h34 => K (.tuple #[]) h34))))
def F60 (K : Value → Heap → Prop) (h : Heap) (xa xb xc : Option Addr) : Prop :=
  (g60 K h (Array.push h (.cells #[.pointer xa, .pointer xb, .pointer xc] 124)))
theorem call60 {K : Value → Heap → Prop} {h : Heap} {xa xb xc : Option Addr} (H : F60 K h xa xb xc) : CallH Tryz.prog 60 #[(.agg #[(.pointer xa), (.pointer xb), (.pointer xc)])] h K :=
  callH_mk Tryz.func60 (by kernel_rfl) (Eq.mp (by kernel_rfl) H)
abbrev g104 (K : Value → Heap → Prop) (h H1 : Heap) : Prop :=
  (lP H1 (Addr.add ⟨h.size, 0, none⟩ 2) fun o1 => nP o1 fun a2 => lI .i64 H1 (Addr.add a2 1) fun n4 => ifB (n4 == 0) (ldH H1 ⟨h.size, 0, none⟩ fun v5 => ldH H1 ⟨h.size, 1, none⟩ fun v6 => ldH H1 ⟨h.size, 2, none⟩ fun v7 => cf 184 #[.agg #[v5, v6, v7]] H1 fun v8 h9 => K (.tuple #[]) h9) (ifB (n4 == 1) (ldH H1 ⟨h.size, 0, none⟩ fun v10 => asPtrO v10 fun o11 => ldH H1 ⟨h.size, 0, none⟩ fun v12 => ldH H1 (Addr.add ⟨h.size, 0, none⟩ 1) fun v13 => ldH H1 (Addr.add ⟨h.size, 0, none⟩ 2) fun v14 => ldH H1 ⟨h.size, 0, none⟩ fun v15 => ldH H1 (Addr.add ⟨h.size, 0, none⟩ 1) fun v16 => ldH H1 (Addr.add ⟨h.size, 0, none⟩ 2) fun v17 => nP o1 fun a18 => bd 3 10 (ldH H1 (Addr.add a18 5) fun v19 => asInt .u64 v19 fun n20 => cf 186 #[.agg #[v15, v16, v17]] H1 fun v21 h22 => asInt .i64 v21 fun n23 => ((cellAt h22 (Addr.add a18 5)) = (some v19)) ∧ (ce h22 h.size 0 v12 (((cellAt h22 (Addr.add ⟨h.size, 0, none⟩ 1)) = (some v13)) ∧ (((cellAt h22 (Addr.add ⟨h.size, 0, none⟩ 2)) = (some v14)) ∧ (ce h22 h.size 0 v10 (cf 185 #[.agg #[v12, v13, v14], .int .i64 (IntKind.wrap .i64 (2 * n23))] h22 fun v24 h25 => asInt .i64 v24 fun n26 => ((cellAt h25 (Addr.add a18 5)) = (some v19)) ∧ (ce h25 h.size 0 v10 (cf 129 #[.pointer o11, .int .i64 n26, .int .u64 n20] h25 fun v27 h28 => nP o1 fun a29 => stH h28 (Addr.add a29 1) (.int .i64 2) fun h30 => K (.tuple #[]) h30))))))))) (ifB (n4 == 2) (ldH H1 ⟨h.size, 0, none⟩ fun v31 => asPtrO v31 fun o32 => ldH H1 ⟨h.size, 0, none⟩ fun v33 => ldH H1 (Addr.add ⟨h.size, 0, none⟩ 1) fun v34 => ldH H1 (Addr.add ⟨h.size, 0, none⟩ 2) fun v35 => nP o1 fun a36 => bd 3 10 (ldH H1 (Addr.add a36 5) fun v37 => asInt .u64 v37 fun n38 => ldH H1 ⟨h.size, 0, none⟩ fun v39 => ldH H1 (Addr.add ⟨h.size, 0, none⟩ 1) fun v40 => ldH H1 (Addr.add ⟨h.size, 0, none⟩ 2) fun v41 => nP o1 fun a42 => cf 186 #[.agg #[v39, v40, v41]] H1 fun v43 h44 => asInt .i64 v43 fun n45 => ((cellAt h44 (Addr.add a36 5)) = (some v37)) ∧ (ce h44 h.size 0 v33 (((cellAt h44 (Addr.add ⟨h.size, 0, none⟩ 1)) = (some v34)) ∧ (((cellAt h44 (Addr.add ⟨h.size, 0, none⟩ 2)) = (some v35)) ∧ (ce h44 h.size 0 v31 (cf 187 #[.agg #[v33, v34, v35], .int .u64 n38, .int .i64 (IntKind.wrap .i64 (5 + n45))] h44 fun v46 h47 => asInt .i64 v46 fun n48 => ce h47 h.size 0 v31 (cf 85 #[.pointer o32, .int .i64 n48] h47 fun v49 h50 => asInt .u64 v49 fun n51 => bd 4 10 (stH h50 (Addr.add a42 6) (.int .u64 n51) fun h52 => nP o1 fun a53 => stH h52 (Addr.add a53 1) (.int .i64 3) fun h54 => ldH h54 ⟨h.size, 0, none⟩ fun v55 => ldH h54 (Addr.add ⟨h.size, 0, none⟩ 1) fun v56 => ldH h54 (Addr.add ⟨h.size, 0, none⟩ 2) fun v57 => cf 188 #[.agg #[v55, v56, v57]] h54 fun v58 h59 => asInt .u64 v58 fun n60 => ifB (n60 == 2) (ldH h59 ⟨h.size, 0, none⟩ fun v61 => ldH h59 ⟨h.size, 1, none⟩ fun v62 => ldH h59 ⟨h.size, 2, none⟩ fun v63 => cf 189 #[.agg #[v61, v62, v63]] h59 fun v64 h65 => K (.tuple #[]) h65) (K (.tuple #[]) h59)))))))))) (ifB (n4 == 3) (ldH H1 ⟨h.size, 0, none⟩ fun v66 => asPtrO v66 fun o67 => ldH H1 ⟨h.size, 0, none⟩ fun v68 => ldH H1 (Addr.add ⟨h.size, 0, none⟩ 1) fun v69 => ldH H1 (Addr.add ⟨h.size, 0, none⟩ 2) fun v70 => ldH H1 ⟨h.size, 0, none⟩ fun v71 => ldH H1 (Addr.add ⟨h.size, 0, none⟩ 1) fun v72 => ldH H1 (Addr.add ⟨h.size, 0, none⟩ 2) fun v73 => ldH H1 ⟨h.size, 0, none⟩ fun v74 => ldH H1 (Addr.add ⟨h.size, 0, none⟩ 1) fun v75 => ldH H1 (Addr.add ⟨h.size, 0, none⟩ 2) fun v76 => cf 186 #[.agg #[v71, v72, v73]] H1 fun v77 h78 => asInt .i64 v77 fun n79 => ce h78 h.size 0 v74 (((cellAt h78 (Addr.add ⟨h.size, 0, none⟩ 1)) = (some v75)) ∧ (((cellAt h78 (Addr.add ⟨h.size, 0, none⟩ 2)) = (some v76)) ∧ (ce h78 h.size 0 v68 (((cellAt h78 (Addr.add ⟨h.size, 0, none⟩ 1)) = (some v69)) ∧ (((cellAt h78 (Addr.add ⟨h.size, 0, none⟩ 2)) = (some v70)) ∧ (ce h78 h.size 0 v66 (cf 185 #[.agg #[v68, v69, v70], .int .i64 (IntKind.wrap .i64 ((IntKind.wrap .i64 (2 * n79)) + 1))] h78 fun v80 h81 => asInt .i64 v80 fun n82 => ce h81 h.size 0 v74 (((cellAt h81 (Addr.add ⟨h.size, 0, none⟩ 1)) = (some v75)) ∧ (((cellAt h81 (Addr.add ⟨h.size, 0, none⟩ 2)) = (some v76)) ∧ (ce h81 h.size 0 v66 (cf 188 #[.agg #[v74, v75, v76]] h81 fun v83 h84 => asInt .u64 v83 fun n85 => ce h84 h.size 0 v66 (cf 129 #[.pointer o67, .int .i64 n82, .int .u64 n85] h84 fun v86 h87 => nP o1 fun a88 => stH h87 (Addr.add a88 1) (.int .i64 4) fun h89 => K (.tuple #[]) h89))))))))))))) (ifB (n4 == 4) (ldH H1 ⟨h.size, 0, none⟩ fun v90 => ldH H1 ⟨h.size, 1, none⟩ fun v91 => ldH H1 ⟨h.size, 2, none⟩ fun v92 => cf 190 #[.agg #[v90, v91, v92]] H1 fun v93 h94 => K (.tuple #[]) h94) (ifB (n4 == 5) (nP o1 fun a95 => stH H1 (Addr.add a95 1) (.int .i64 6) fun h96 => ldH h96 ⟨h.size, 0, none⟩ fun v97 => asPtrO v97 fun o98 => ldH h96 ⟨h.size, 0, none⟩ fun v99 => ldH h96 (Addr.add ⟨h.size, 0, none⟩ 1) fun v100 => ldH h96 (Addr.add ⟨h.size, 0, none⟩ 2) fun v101 => ldH h96 ⟨h.size, 0, none⟩ fun v102 => ldH h96 (Addr.add ⟨h.size, 0, none⟩ 1) fun v103 => ldH h96 (Addr.add ⟨h.size, 0, none⟩ 2) fun v104 => cf 188 #[.agg #[v102, v103, v104]] h96 fun v105 h106 => asInt .u64 v105 fun n107 => ce h106 h.size 0 v99 (((cellAt h106 (Addr.add ⟨h.size, 0, none⟩ 1)) = (some v100)) ∧ (((cellAt h106 (Addr.add ⟨h.size, 0, none⟩ 2)) = (some v101)) ∧ (ce h106 h.size 0 v97 (cf 187 #[.agg #[v99, v100, v101], .int .u64 n107, .int .i64 5] h106 fun v108 h109 => asInt .i64 v108 fun n110 => ce h109 h.size 0 v97 (cf 85 #[.pointer o98, .int .i64 n110] h109 fun v111 h112 => asInt .u64 v111 fun n113 => cf 171 #[.int .u64 n113] h112 fun v114 h115 => asBool v114 fun b116 => ifB b116 (ldH h115 ⟨h.size, 0, none⟩ fun v117 => ldH h115 ⟨h.size, 1, none⟩ fun v118 => ldH h115 ⟨h.size, 2, none⟩ fun v119 => cf 191 #[.agg #[v117, v118, v119]] h115 fun v120 h121 => K (.tuple #[]) h121) (K (.tuple #[]) h115))))))) (ldH H1 ⟨h.size, 0, none⟩ fun v122 => asPtrO v122 fun o123 => ldH H1 ⟨h.size, 0, none⟩ fun v124 => ldH H1 (Addr.add ⟨h.size, 0, none⟩ 1) fun v125 => ldH H1 (Addr.add ⟨h.size, 0, none⟩ 2) fun v126 => ldH H1 ⟨h.size, 0, none⟩ fun v127 => ldH H1 (Addr.add ⟨h.size, 0, none⟩ 1) fun v128 => ldH H1 (Addr.add ⟨h.size, 0, none⟩ 2) fun v129 => nP o1 fun a130 => bd 0 10 (ldH H1 (Addr.add a130 2) fun v131 => asInt .u64 v131 fun n132 => cf 188 #[.agg #[v127, v128, v129]] H1 fun v133 h134 => asInt .u64 v133 fun n135 => ((cellAt h134 (Addr.add a130 2)) = (some v131)) ∧ (ce h134 h.size 0 v124 (((cellAt h134 (Addr.add ⟨h.size, 0, none⟩ 1)) = (some v125)) ∧ (((cellAt h134 (Addr.add ⟨h.size, 0, none⟩ 2)) = (some v126)) ∧ (ce h134 h.size 0 v122 (cf 187 #[.agg #[v124, v125, v126], .int .u64 n135, .int .i64 0] h134 fun v136 h137 => asInt .i64 v136 fun n138 => ((cellAt h137 (Addr.add a130 2)) = (some v131)) ∧ (ce h137 h.size 0 v122 (cf 85 #[.pointer o123, .int .i64 n138] h137 fun v139 h140 => asInt .u64 v139 fun n141 => ((cellAt h140 (Addr.add a130 2)) = (some v131)) ∧ (ifB (decide (n141 < n132)) (ldH h140 ⟨h.size, 0, none⟩ fun v142 => ldH h140 ⟨h.size, 1, none⟩ fun v143 => ldH h140 ⟨h.size, 2, none⟩ fun v144 => cf 191 #[.agg #[v142, v143, v144]] h140 fun v145 h146 => K (.tuple #[]) h146) (ldH h140 ⟨h.size, 0, none⟩ fun v147 => ldH h140 ⟨h.size, 1, none⟩ fun v148 => ldH h140 ⟨h.size, 2, none⟩ fun v149 => cf 189 #[.agg #[v147, v148, v149]] h140 fun v150 h151 => K (.tuple #[]) h151)))))))))))))))))
def F104 (K : Value → Heap → Prop) (h : Heap) (xa xb xc : Option Addr) : Prop :=
  (g104 K h (Array.push h (.cells #[.pointer xa, .pointer xb, .pointer xc] 160)))
theorem call104 {K : Value → Heap → Prop} {h : Heap} {xa xb xc : Option Addr} (H : F104 K h xa xb xc) : CallH Tryz.prog 104 #[(.agg #[(.pointer xa), (.pointer xb), (.pointer xc)])] h K :=
  callH_mk Tryz.func104 (by kernel_rfl) (Eq.mp (by kernel_rfl) H)
abbrev g105 (K : Value → Heap → Prop) (h H1 : Heap) : Prop :=
  (lP H1 (Addr.add ⟨h.size, 0, none⟩ 2) fun o1 => nP o1 fun a2 => lI .i64 H1 (Addr.add a2 1) fun n4 => ifB (n4 == 0) (ldH H1 ⟨h.size, 0, none⟩ fun v5 => ldH H1 (Addr.add ⟨h.size, 0, none⟩ 1) fun v6 => ldH H1 (Addr.add ⟨h.size, 0, none⟩ 2) fun v7 => cf 114 #[.agg #[v5, v6, v7], .int .i64 1, .int .i64 1, .slice none 0 0] H1 fun v8 h9 => K (.tuple #[]) h9) (ifB (n4 == 1) (lP H1 (Addr.add ⟨h.size, 0, none⟩ 1) fun o11 => nP o11 fun a12 => bd 0 3 (lI .u64 H1 (Addr.add a12 2) fun n14 => nP o1 fun a15 => bd 2 10 (stH H1 (Addr.add a15 4) (.int .u64 n14) fun h16 => nP o1 fun a17 => bd 2 10 (lI .u64 h16 (Addr.add a17 4) fun n19 => ifB (n19 != 0) (nP o1 fun a20 => stH h16 (Addr.add a20 1) (.int .i64 2) fun h21 => K (.tuple #[]) h21) (exI fun I22 => (nP o1 fun a23 => bd 5 10 (lI .u64 h16 (Addr.add a23 7) fun n25 => ifB (n25 == 0) (lP h16 (Addr.add ⟨h.size, 0, none⟩ 1) fun o27 => nP o27 fun a28 => cf 136 #[.pointer (some (Addr.add a28 8))] h16 fun v29 h30 => asInt .i64 v29 fun n31 => I22 [.bool (decide (n31 > 0)), .bool (decide (n31 > 0))] h30) (I22 [.bool false, .bool false] h16))) ∧ (∀ (v32 v33 : Value) (g34 : Env) (h35 : Heap), (I22 [v32, v33] h35) → (asBool v32 fun b36 => ifB b36 (nP o1 fun a37 => bd 5 10 (stH h35 (Addr.add a37 7) (.int .u64 1) fun h38 => ldH h38 ⟨h.size, 0, none⟩ fun v39 => ldH h38 (Addr.add ⟨h.size, 0, none⟩ 1) fun v40 => ldH h38 (Addr.add ⟨h.size, 0, none⟩ 2) fun v41 => cf 114 #[.agg #[v39, v40, v41], .int .i64 0, .int .i64 6, .slice none 0 0] h38 fun v42 h43 => K (.tuple #[]) h43)) (ldH h35 ⟨h.size, 0, none⟩ fun v44 => ldH h35 (Addr.add ⟨h.size, 0, none⟩ 1) fun v45 => ldH h35 (Addr.add ⟨h.size, 0, none⟩ 2) fun v46 => cf 113 #[.agg #[v44, v45, v46], .int .u64 1] h35 fun v47 h48 => K (.tuple #[]) h48)))))))) (ifB (n4 == 2) (nP o1 fun a49 => bd 0 10 (ldH H1 (Addr.add a49 2) fun v50 => asInt .u64 v50 fun n51 => lP H1 ⟨h.size, 0, none⟩ fun o53 => nP o1 fun a54 => cf 116 #[.pointer o53, .int .i64 3, .int .u64 1] H1 fun v55 h56 => asInt .u64 v55 fun n57 => ((cellAt h56 (Addr.add a49 2)) = (some v50)) ∧ (cf 138 #[.int .u32 (IntKind.wrap .u32 n51), .int .u32 (IntKind.wrap .u32 n57)] h56 fun v58 h59 => asInt .u64 v58 fun n60 => bd 4 10 (stH h59 (Addr.add a54 6) (.int .u64 n60) fun h61 => lP h61 ⟨h.size, 0, none⟩ fun o63 => ldH h61 ⟨h.size, 0, none⟩ fun v64 => asPtrO v64 fun o65 => nP o1 fun a66 => cf 139 #[.pointer o63] h61 fun v67 h68 => asPtrO v67 fun o69 => ce h68 h.size 0 v64 (cf 117 #[.pointer o65] h68 fun v70 h71 => asAgg v70 fun vs72 => sizeH vs72 15 (elemH vs72 0 fun v73 => elemH vs72 1 fun v74 => elemH vs72 2 fun v75 => elemH vs72 3 fun v76 => elemH vs72 4 fun v77 => elemH vs72 5 fun v78 => elemH vs72 6 fun v79 => elemH vs72 7 fun v80 => elemH vs72 8 fun v81 => elemH vs72 9 fun v82 => elemH vs72 10 fun v83 => elemH vs72 11 fun v84 => elemH vs72 12 fun v85 => elemH vs72 13 fun v86 => elemH vs72 14 fun v87 => cf 62 #[.agg #[v73, v74, v75, v76, v77, v78, v79, v80, v81, v82, v83, v84, v85, v86, v87]] h71 fun v88 h89 => asAgg v88 fun vs90 => sizeH vs90 7 (elemH vs90 0 fun v91 => elemH vs90 1 fun v92 => elemH vs90 2 fun v93 => elemH vs90 3 fun v94 => elemH vs90 4 fun v95 => elemH vs90 5 fun v96 => elemH vs90 6 fun v97 => asInt .i64 v94 fun n98 => cf 140 #[.pointer o69, .int .i64 n98] h89 fun v99 h100 => asInt .i64 v99 fun n101 => bd 3 10 (stH h100 (Addr.add a66 5) (.int .u64 (IntKind.wrap .u64 n101)) fun h102 => nP o1 fun a103 => stH h102 (Addr.add a103 1) (.int .i64 3) fun h104 => K (.tuple #[]) h104)))))))) (K (.tuple #[]) H1))))
def F105 (K : Value → Heap → Prop) (h : Heap) (xa xb xc : Option Addr) : Prop :=
  (g105 K h (Array.push h (.cells #[.pointer xa, .pointer xb, .pointer xc] 120)))
theorem call105 {K : Value → Heap → Prop} {h : Heap} {xa xb xc : Option Addr} (H : F105 K h xa xb xc) : CallH Tryz.prog 105 #[(.agg #[(.pointer xa), (.pointer xb), (.pointer xc)])] h K :=
  callH_mk Tryz.func105 (by kernel_rfl) (Eq.mp (by kernel_rfl) H)
abbrev g106 (K : Value → Heap → Prop) (h H1 : Heap) : Prop :=
  (lP H1 (Addr.add ⟨h.size, 0, none⟩ 2) fun o1 => nP o1 fun a2 => bd 2 10 (lI .u64 H1 (Addr.add a2 4) fun n4 => exI fun I5 => (nP o1 fun a6 => lI .i64 H1 (Addr.add a6 1) fun n8 => ifB (n8 == 3) (ldH H1 ⟨h.size, 0, none⟩ fun v9 => asPtrO v9 fun o10 => ldH H1 ⟨h.size, 0, none⟩ fun v11 => ldH H1 (Addr.add ⟨h.size, 0, none⟩ 1) fun v12 => ldH H1 (Addr.add ⟨h.size, 0, none⟩ 2) fun v13 => nP o1 fun a14 => bd 4 10 (ldH H1 (Addr.add a14 6) fun v15 => asInt .u64 v15 fun n16 => cf 192 #[.agg #[v11, v12, v13], .int .u64 n4, .int .i64 0] H1 fun v17 h18 => asInt .i64 v17 fun n19 => ((cellAt h18 (Addr.add a14 6)) = (some v15)) ∧ (ce h18 h.size 0 v9 (cf 129 #[.pointer o10, .int .i64 n19, .int .u64 n16] h18 fun v20 h21 => I5 [.bool true, .tuple #[], .tuple #[], .tuple #[]] h21)))) (ifB (n8 == 4) (ldH H1 ⟨h.size, 0, none⟩ fun v22 => asPtrO v22 fun o23 => ldH H1 ⟨h.size, 0, none⟩ fun v24 => ldH H1 (Addr.add ⟨h.size, 0, none⟩ 1) fun v25 => ldH H1 (Addr.add ⟨h.size, 0, none⟩ 2) fun v26 => nP o1 fun a27 => bd 1 10 (ldH H1 (Addr.add a27 3) fun v28 => asInt .u64 v28 fun n29 => cf 192 #[.agg #[v24, v25, v26], .int .u64 n4, .int .i64 1] H1 fun v30 h31 => asInt .i64 v30 fun n32 => ((cellAt h31 (Addr.add a27 3)) = (some v28)) ∧ (ce h31 h.size 0 v22 (cf 129 #[.pointer o23, .int .i64 n32, .int .u64 n29] h31 fun v33 h34 => I5 [.bool false, .bool true, .tuple #[], .tuple #[]] h34)))) (ifB (n8 == 5) (ldH H1 ⟨h.size, 0, none⟩ fun v35 => asPtrO v35 fun o36 => ldH H1 ⟨h.size, 0, none⟩ fun v37 => ldH H1 (Addr.add ⟨h.size, 0, none⟩ 1) fun v38 => ldH H1 (Addr.add ⟨h.size, 0, none⟩ 2) fun v39 => cf 192 #[.agg #[v37, v38, v39], .int .u64 n4, .int .i64 2] H1 fun v40 h41 => asInt .i64 v40 fun n42 => ce h41 h.size 0 v35 (cf 129 #[.pointer o36, .int .i64 n42, .int .u64 1] h41 fun v43 h44 => I5 [.bool false, .bool false, .bool true, .tuple #[]] h44)) (ifB (n8 == 6) (ldH H1 ⟨h.size, 0, none⟩ fun v45 => asPtrO v45 fun o46 => ldH H1 ⟨h.size, 0, none⟩ fun v47 => ldH H1 (Addr.add ⟨h.size, 0, none⟩ 1) fun v48 => ldH H1 (Addr.add ⟨h.size, 0, none⟩ 2) fun v49 => nP o1 fun a50 => bd 3 10 (ldH H1 (Addr.add a50 5) fun v51 => asInt .u64 v51 fun n52 => cf 192 #[.agg #[v47, v48, v49], .int .u64 n4, .int .i64 3] H1 fun v53 h54 => asInt .i64 v53 fun n55 => ((cellAt h54 (Addr.add a50 5)) = (some v51)) ∧ (ce h54 h.size 0 v45 (cf 129 #[.pointer o46, .int .i64 n55, .int .u64 n52] h54 fun v56 h57 => I5 [.bool false, .bool false, .bool false, .bool true] h57)))) (I5 [.bool false, .bool false, .bool false, .bool false] H1))))) ∧ (∀ (v58 v59 v60 v61 : Value) (g62 : Env) (h63 : Heap), (I5 [v58, v59, v60, v61] h63) → (nP o1 fun a64 => lI .i64 h63 (Addr.add a64 1) fun n66 => nP o1 fun a67 => stH h63 (Addr.add a67 1) (.int .i64 (IntKind.wrap .i64 (n66 + 1))) fun h68 => K (.tuple #[]) h68))))
def F106 (K : Value → Heap → Prop) (h : Heap) (xa xb xc : Option Addr) : Prop :=
  (g106 K h (Array.push h (.cells #[.pointer xa, .pointer xb, .pointer xc] 120)))
theorem call106 {K : Value → Heap → Prop} {h : Heap} {xa xb xc : Option Addr} (H : F106 K h xa xb xc) : CallH Tryz.prog 106 #[(.agg #[(.pointer xa), (.pointer xb), (.pointer xc)])] h K :=
  callH_mk Tryz.func106 (by kernel_rfl) (Eq.mp (by kernel_rfl) H)
abbrev g107 (K : Value → Heap → Prop) (h H1 : Heap) : Prop :=
  (lP H1 (Addr.add ⟨h.size, 0, none⟩ 2) fun o1 => nP o1 fun a2 => bd 2 10 (lI .u64 H1 (Addr.add a2 4) fun n4 => nP o1 fun a5 => lI .i64 H1 (Addr.add a5 1) fun n7 => ifB (n7 == 7) (ldH H1 ⟨h.size, 0, none⟩ fun v8 => ldH H1 (Addr.add ⟨h.size, 0, none⟩ 1) fun v9 => ldH H1 (Addr.add ⟨h.size, 0, none⟩ 2) fun v10 => nP o1 fun a11 => bd 4 10 (lI .u64 H1 (Addr.add a11 6) fun n13 => ((cellAt (Array.push H1 (.cells #[.int .u64 n13] 65)) ⟨h.size, 0, none⟩) = (some v8)) ∧ (((cellAt (Array.push H1 (.cells #[.int .u64 n13] 65)) (Addr.add ⟨h.size, 0, none⟩ 1)) = (some v9)) ∧ (((cellAt (Array.push H1 (.cells #[.int .u64 n13] 65)) (Addr.add ⟨h.size, 0, none⟩ 2)) = (some v10)) ∧ (cf 114 #[.agg #[v8, v9, v10], .int .i64 8, .int .i64 30, .slice (some ⟨H1.size, 0, none⟩) 1 1] (Array.push H1 (.cells #[.int .u64 n13] 65)) fun v14 h15 => K (.tuple #[]) h15))))) (ifB (n7 == 8) (lP H1 (Addr.add ⟨h.size, 0, none⟩ 1) fun o17 => nP o17 fun a18 => bd 0 3 (lI .u64 H1 (Addr.add a18 2) fun n20 => nP o1 fun a21 => bd 7 10 (stH H1 (Addr.add a21 9) (.int .u64 n20) fun h22 => ldH h22 ⟨h.size, 0, none⟩ fun v23 => asPtrO v23 fun o24 => ldH h22 ⟨h.size, 0, none⟩ fun v25 => ldH h22 (Addr.add ⟨h.size, 0, none⟩ 1) fun v26 => ldH h22 (Addr.add ⟨h.size, 0, none⟩ 2) fun v27 => nP o1 fun a28 => cf 110 #[.agg #[v25, v26, v27], .int .u64 n4, .int .u64 0] h22 fun v29 h30 => asInt .i64 v29 fun n31 => ce h30 h.size 0 v23 (cf 85 #[.pointer o24, .int .i64 n31] h30 fun v32 h33 => asInt .u64 v32 fun n34 => bd 6 10 (stH h33 (Addr.add a28 8) (.int .u64 n34) fun h35 => nP o1 fun a36 => stH h35 (Addr.add a36 1) (.int .i64 9) fun h37 => K (.tuple #[]) h37))))) (ifB (n7 == 9) (ldH H1 ⟨h.size, 0, none⟩ fun v38 => asPtrO v38 fun o39 => ldH H1 ⟨h.size, 0, none⟩ fun v40 => ldH H1 (Addr.add ⟨h.size, 0, none⟩ 1) fun v41 => ldH H1 (Addr.add ⟨h.size, 0, none⟩ 2) fun v42 => nP o1 fun a43 => bd 6 10 (ldH H1 (Addr.add a43 8) fun v44 => asInt .u64 v44 fun n45 => ldH H1 (Addr.add ⟨h.size, 0, none⟩ 1) fun v46 => asPtrO v46 fun o47 => nP o47 fun a48 => ldH H1 (Addr.add a48 6) fun v49 => asSlice v49 fun o50 k51 k52 => bd 0 (k51 : Int) (asPtr (.pointer o50) fun a53 => ldH H1 a53 fun v54 => asInt .u64 v54 fun n55 => cf 110 #[.agg #[v40, v41, v42], .int .u64 n4, .int .u64 0] H1 fun v56 h57 => asInt .i64 v56 fun n58 => ((cellAt h57 a53) = (some v54)) ∧ (((cellAt h57 (Addr.add a48 6)) = (some v49)) ∧ (((cellAt h57 (Addr.add ⟨h.size, 0, none⟩ 1)) = (some v46)) ∧ (((cellAt h57 (Addr.add a43 8)) = (some v44)) ∧ (ce h57 h.size 0 v38 (cf 144 #[.int .u64 n45, .int .i64 (IntKind.wrap .i64 n55), .bool false] h57 fun v59 h60 => asInt .u64 v59 fun n61 => ce h60 h.size 0 v38 (cf 129 #[.pointer o39, .int .i64 n58, .int .u64 n61] h60 fun v62 h63 => nP o1 fun a64 => stH h63 (Addr.add a64 1) (.int .i64 10) fun h65 => K (.tuple #[]) h65))))))))) (ifB (n7 == 10) (nP o1 fun a66 => bd 5 10 (stH H1 (Addr.add a66 7) (.int .u64 1) fun h67 => nP o1 fun a68 => stH h67 (Addr.add a68 1) (.int .i64 7) fun h69 => ldH h69 ⟨h.size, 0, none⟩ fun v70 => ldH h69 (Addr.add ⟨h.size, 0, none⟩ 1) fun v71 => ldH h69 (Addr.add ⟨h.size, 0, none⟩ 2) fun v72 => ldH h69 ⟨h.size, 0, none⟩ fun v73 => ldH h69 (Addr.add ⟨h.size, 0, none⟩ 1) fun v74 => ldH h69 (Addr.add ⟨h.size, 0, none⟩ 2) fun v75 => lP h69 (Addr.add ⟨h.size, 0, none⟩ 1) fun o77 => nP o77 fun a78 => lS h69 (Addr.add a78 5) fun o80 k81 k82 => bd 0 (k81 : Int) (asPtr (.pointer o80) fun a83 => lI .u64 h69 a83 fun n85 => ldH h69 (Addr.add ⟨h.size, 0, none⟩ 1) fun v86 => asPtrO v86 fun o87 => nP o87 fun a88 => ldH h69 (Addr.add a88 7) fun v89 => asSlice v89 fun o90 k91 k92 => bd 0 (k91 : Int) (asPtr (.pointer o90) fun a93 => ldH h69 a93 fun v94 => asInt .u64 v94 fun n95 => cf 110 #[.agg #[v73, v74, v75], .int .u64 n85, .int .u64 0] h69 fun v96 h97 => asInt .i64 v96 fun n98 => ((cellAt h97 a93) = (some v94)) ∧ (((cellAt h97 (Addr.add a88 7)) = (some v89)) ∧ (((cellAt h97 (Addr.add ⟨h.size, 0, none⟩ 1)) = (some v86)) ∧ (ce h97 h.size 0 v70 (((cellAt h97 (Addr.add ⟨h.size, 0, none⟩ 1)) = (some v71)) ∧ (((cellAt h97 (Addr.add ⟨h.size, 0, none⟩ 2)) = (some v72)) ∧ (cf 115 #[.agg #[v70, v71, v72], .int .i64 n98, .int .u64 n95, .int .u64 n4, .bool false] h97 fun v99 h100 => asBool v99 fun b101 => ifB b101 (nP o1 fun a102 => stH h100 (Addr.add a102 1) (.int .i64 11) fun h103 => K (.tuple #[]) h103) (K (.tuple #[]) h100))))))))))) (K (.tuple #[]) H1))))))
def F107 (K : Value → Heap → Prop) (h : Heap) (xa xb xc : Option Addr) : Prop :=
  (g107 K h (Array.push h (.cells #[.pointer xa, .pointer xb, .pointer xc] 120)))
theorem call107 {K : Value → Heap → Prop} {h : Heap} {xa xb xc : Option Addr} (H : F107 K h xa xb xc) : CallH Tryz.prog 107 #[(.agg #[(.pointer xa), (.pointer xb), (.pointer xc)])] h K :=
  callH_mk Tryz.func107 (by kernel_rfl) (Eq.mp (by kernel_rfl) H)
abbrev g108 (K : Value → Heap → Prop) (h H1 : Heap) : Prop :=
  (lP H1 (Addr.add ⟨h.size, 0, none⟩ 2) fun o1 => nP o1 fun a2 => bd 2 10 (lI .u64 H1 (Addr.add a2 4) fun n4 => nP o1 fun a5 => bd 5 10 (lI .u64 H1 (Addr.add a5 7) fun n7 => nP o1 fun a8 => lI .i64 H1 (Addr.add a8 1) fun n10 => ifB (n10 == 11) (nP o1 fun a11 => bd 3 10 (lI .u64 H1 (Addr.add a11 5) fun n13 => ifB (decide (n7 ≥ n13)) (nP o1 fun a14 => stH H1 (Addr.add a14 1) (.int .i64 17) fun h15 => K (.tuple #[]) h15) (nP o1 fun a16 => stH H1 (Addr.add a16 1) (.int .i64 12) fun h17 => ldH h17 ⟨h.size, 0, none⟩ fun v18 => asPtrO v18 fun o19 => ldH h17 ⟨h.size, 0, none⟩ fun v20 => ldH h17 (Addr.add ⟨h.size, 0, none⟩ 1) fun v21 => ldH h17 (Addr.add ⟨h.size, 0, none⟩ 2) fun v22 => cf 110 #[.agg #[v20, v21, v22], .int .u64 n4, .int .u64 0] h17 fun v23 h24 => asInt .i64 v23 fun n25 => ce h24 h.size 0 v18 (cf 85 #[.pointer o19, .int .i64 n25] h24 fun v26 h27 => asInt .u64 v26 fun n28 => cf 112 #[.int .u64 n28] h27 fun v29 h30 => asBool v29 fun b31 => ifB b31 (nP o1 fun a32 => stH h30 (Addr.add a32 1) (.int .i64 17) fun h33 => K (.tuple #[]) h33) (K (.tuple #[]) h30))))) (ifB (n10 == 12) (nP o1 fun a34 => stH H1 (Addr.add a34 1) (.int .i64 13) fun h35 => lP h35 (Addr.add ⟨h.size, 0, none⟩ 1) fun o37 => nP o37 fun a38 => lS h35 (Addr.add a38 6) fun o40 k41 k42 => bd n7 (k41 : Int) (asPtr (.pointer o40) fun a43 => lI .u64 h35 (Addr.add a43 (n7.toNat * 1)) fun n45 => exI fun I46 => (ifB (n45 != 2) (nP o1 fun a47 => bd 7 10 (lI .u64 h35 (Addr.add a47 9) fun n49 => ifB (n45 == n49) (I46 [.bool true, .bool true] h35) (ldH h35 ⟨h.size, 0, none⟩ fun v50 => asPtrO v50 fun o51 => ldH h35 ⟨h.size, 0, none⟩ fun v52 => ldH h35 (Addr.add ⟨h.size, 0, none⟩ 1) fun v53 => ldH h35 (Addr.add ⟨h.size, 0, none⟩ 2) fun v54 => cf 110 #[.agg #[v52, v53, v54], .int .u64 n45, .int .u64 0] h35 fun v55 h56 => asInt .i64 v55 fun n57 => ce h56 h.size 0 v50 (cf 85 #[.pointer o51, .int .i64 n57] h56 fun v58 h59 => asInt .u64 v58 fun n60 => cf 112 #[.int .u64 n60] h59 fun v61 h62 => asBool v61 fun b63 => I46 [.bool b63, .bool b63] h62)))) (I46 [.tuple #[], .bool false] h35)) ∧ (∀ (v64 v65 : Value) (g66 : Env) (h67 : Heap), (I46 [v64, v65] h67) → (asBool v65 fun b68 => ifB b68 (nP o1 fun a69 => stH h67 (Addr.add a69 1) (.int .i64 17) fun h70 => K (.tuple #[]) h70) (K (.tuple #[]) h67))))) (ifB (n10 == 13) (ldH H1 ⟨h.size, 0, none⟩ fun v71 => asPtrO v71 fun o72 => ldH H1 ⟨h.size, 0, none⟩ fun v73 => ldH H1 (Addr.add ⟨h.size, 0, none⟩ 1) fun v74 => ldH H1 (Addr.add ⟨h.size, 0, none⟩ 2) fun v75 => nP o1 fun a76 => cf 110 #[.agg #[v73, v74, v75], .int .u64 n4, .int .u64 n7] H1 fun v77 h78 => asInt .i64 v77 fun n79 => ce h78 h.size 0 v71 (cf 85 #[.pointer o72, .int .i64 n79] h78 fun v80 h81 => asInt .u64 v80 fun n82 => bd 6 10 (stH h81 (Addr.add a76 8) (.int .u64 n82) fun h83 => nP o1 fun a84 => stH h83 (Addr.add a84 1) (.int .i64 14) fun h85 => K (.tuple #[]) h85))) (ifB (n10 == 14) (ldH H1 ⟨h.size, 0, none⟩ fun v86 => asPtrO v86 fun o87 => ldH H1 ⟨h.size, 0, none⟩ fun v88 => ldH H1 (Addr.add ⟨h.size, 0, none⟩ 1) fun v89 => ldH H1 (Addr.add ⟨h.size, 0, none⟩ 2) fun v90 => nP o1 fun a91 => bd 6 10 (ldH H1 (Addr.add a91 8) fun v92 => asInt .u64 v92 fun n93 => ldH H1 (Addr.add ⟨h.size, 0, none⟩ 1) fun v94 => asPtrO v94 fun o95 => nP o95 fun a96 => ldH H1 (Addr.add a96 6) fun v97 => asSlice v97 fun o98 k99 k100 => bd n7 (k99 : Int) (asPtr (.pointer o98) fun a101 => ldH H1 (Addr.add a101 (n7.toNat * 1)) fun v102 => asInt .u64 v102 fun n103 => cf 110 #[.agg #[v88, v89, v90], .int .u64 n4, .int .u64 n7] H1 fun v104 h105 => asInt .i64 v104 fun n106 => ((cellAt h105 (Addr.add a101 (n7.toNat * 1))) = (some v102)) ∧ (((cellAt h105 (Addr.add a96 6)) = (some v97)) ∧ (((cellAt h105 (Addr.add ⟨h.size, 0, none⟩ 1)) = (some v94)) ∧ (((cellAt h105 (Addr.add a91 8)) = (some v92)) ∧ (ce h105 h.size 0 v86 (cf 144 #[.int .u64 n93, .int .i64 (IntKind.wrap .i64 n103), .bool false] h105 fun v107 h108 => asInt .u64 v107 fun n109 => ce h108 h.size 0 v86 (cf 129 #[.pointer o87, .int .i64 n106, .int .u64 n109] h108 fun v110 h111 => nP o1 fun a112 => stH h111 (Addr.add a112 1) (.int .i64 15) fun h113 => K (.tuple #[]) h113))))))))) (K (.tuple #[]) H1)))))))
def F108 (K : Value → Heap → Prop) (h : Heap) (xa xb xc : Option Addr) : Prop :=
  (g108 K h (Array.push h (.cells #[.pointer xa, .pointer xb, .pointer xc] 120)))
theorem call108 {K : Value → Heap → Prop} {h : Heap} {xa xb xc : Option Addr} (H : F108 K h xa xb xc) : CallH Tryz.prog 108 #[(.agg #[(.pointer xa), (.pointer xb), (.pointer xc)])] h K :=
  callH_mk Tryz.func108 (by kernel_rfl) (Eq.mp (by kernel_rfl) H)
abbrev g109 (K : Value → Heap → Prop) (h H1 : Heap) : Prop :=
  (lP H1 (Addr.add ⟨h.size, 0, none⟩ 2) fun o1 => nP o1 fun a2 => lI .i64 H1 (Addr.add a2 1) fun n4 => ifB (n4 == 15) (nP o1 fun a5 => bd 5 10 (lI .u64 H1 (Addr.add a5 7) fun n7 => ldH H1 ⟨h.size, 0, none⟩ fun v8 => ldH H1 (Addr.add ⟨h.size, 0, none⟩ 1) fun v9 => ldH H1 (Addr.add ⟨h.size, 0, none⟩ 2) fun v10 => ldH H1 ⟨h.size, 0, none⟩ fun v11 => ldH H1 (Addr.add ⟨h.size, 0, none⟩ 1) fun v12 => ldH H1 (Addr.add ⟨h.size, 0, none⟩ 2) fun v13 => lP H1 (Addr.add ⟨h.size, 0, none⟩ 1) fun o15 => nP o15 fun a16 => lS H1 (Addr.add a16 5) fun o18 k19 k20 => bd n7 (k19 : Int) (asPtr (.pointer o18) fun a21 => lI .u64 H1 (Addr.add a21 (n7.toNat * 1)) fun n23 => ldH H1 (Addr.add ⟨h.size, 0, none⟩ 1) fun v24 => asPtrO v24 fun o25 => nP o25 fun a26 => ldH H1 (Addr.add a26 7) fun v27 => asSlice v27 fun o28 k29 k30 => bd n7 (k29 : Int) (asPtr (.pointer o28) fun a31 => ldH H1 (Addr.add a31 (n7.toNat * 1)) fun v32 => asInt .u64 v32 fun n33 => nP o1 fun a34 => bd 2 10 (ldH H1 (Addr.add a34 4) fun v35 => asInt .u64 v35 fun n36 => cf 110 #[.agg #[v11, v12, v13], .int .u64 n23, .int .u64 n7] H1 fun v37 h38 => asInt .i64 v37 fun n39 => ((cellAt h38 (Addr.add a34 4)) = (some v35)) ∧ (((cellAt h38 (Addr.add a31 (n7.toNat * 1))) = (some v32)) ∧ (((cellAt h38 (Addr.add a26 7)) = (some v27)) ∧ (((cellAt h38 (Addr.add ⟨h.size, 0, none⟩ 1)) = (some v24)) ∧ (ce h38 h.size 0 v8 (((cellAt h38 (Addr.add ⟨h.size, 0, none⟩ 1)) = (some v9)) ∧ (((cellAt h38 (Addr.add ⟨h.size, 0, none⟩ 2)) = (some v10)) ∧ (cf 115 #[.agg #[v8, v9, v10], .int .i64 n39, .int .u64 n33, .int .u64 n36, .bool false] h38 fun v40 h41 => asBool v40 fun b42 => ifB b42 (nP o1 fun a43 => bd 5 10 (lI .u64 h41 (Addr.add a43 7) fun n45 => nP o1 fun a46 => bd 5 10 (stH h41 (Addr.add a46 7) (.int .u64 (IntKind.wrap .u64 (n45 + 1))) fun h47 => nP o1 fun a48 => stH h47 (Addr.add a48 1) (.int .i64 11) fun h49 => K (.tuple #[]) h49))) (ldH h41 ⟨h.size, 0, none⟩ fun v50 => ldH h41 (Addr.add ⟨h.size, 0, none⟩ 1) fun v51 => ldH h41 (Addr.add ⟨h.size, 0, none⟩ 2) fun v52 => nP o1 fun a53 => bd 4 10 (lI .u64 h41 (Addr.add a53 6) fun n55 => ((cellAt (Array.push h41 (.cells #[.int .u64 n55] 65)) ⟨h.size, 0, none⟩) = (some v50)) ∧ (((cellAt (Array.push h41 (.cells #[.int .u64 n55] 65)) (Addr.add ⟨h.size, 0, none⟩ 1)) = (some v51)) ∧ (((cellAt (Array.push h41 (.cells #[.int .u64 n55] 65)) (Addr.add ⟨h.size, 0, none⟩ 2)) = (some v52)) ∧ (cf 114 #[.agg #[v50, v51, v52], .int .i64 16, .int .i64 30, .slice (some ⟨h41.size, 0, none⟩) 1 1] (Array.push h41 (.cells #[.int .u64 n55] 65)) fun v56 h57 => K (.tuple #[]) h57))))))))))))))))) (ifB (n4 == 16) (lP H1 (Addr.add ⟨h.size, 0, none⟩ 1) fun o59 => nP o59 fun a60 => bd 0 3 (lI .u64 H1 (Addr.add a60 2) fun n62 => nP o1 fun a63 => bd 7 10 (stH H1 (Addr.add a63 9) (.int .u64 n62) fun h64 => nP o1 fun a65 => stH h64 (Addr.add a65 1) (.int .i64 11) fun h66 => lP h66 (Addr.add ⟨h.size, 0, none⟩ 1) fun o68 => nP o68 fun a69 => lS h66 (Addr.add a69 6) fun o71 k72 k73 => bd 0 (k72 : Int) (asPtr (.pointer o71) fun a74 => lI .u64 h66 a74 fun n76 => nP o1 fun a77 => bd 2 10 (lI .u64 h66 (Addr.add a77 4) fun n79 => ifB (n76 != n79) (nP o1 fun a80 => stH h66 (Addr.add a80 1) (.int .i64 17) fun h81 => K (.tuple #[]) h81) (K (.tuple #[]) h66)))))) (ifB (n4 == 17) (ldH H1 ⟨h.size, 0, none⟩ fun v82 => asPtrO v82 fun o83 => ldH H1 ⟨h.size, 0, none⟩ fun v84 => ldH H1 (Addr.add ⟨h.size, 0, none⟩ 1) fun v85 => ldH H1 (Addr.add ⟨h.size, 0, none⟩ 2) fun v86 => nP o1 fun a87 => bd 2 10 (lI .u64 H1 (Addr.add a87 4) fun n89 => cf 192 #[.agg #[v84, v85, v86], .int .u64 n89, .int .i64 2] H1 fun v90 h91 => asInt .i64 v90 fun n92 => ce h91 h.size 0 v82 (cf 129 #[.pointer o83, .int .i64 n92, .int .u64 0] h91 fun v93 h94 => nP o1 fun a95 => stH h94 (Addr.add a95 1) (.int .i64 18) fun h96 => K (.tuple #[]) h96))) (ldH H1 ⟨h.size, 0, none⟩ fun v97 => ldH H1 (Addr.add ⟨h.size, 0, none⟩ 1) fun v98 => ldH H1 (Addr.add ⟨h.size, 0, none⟩ 2) fun v99 => cf 113 #[.agg #[v97, v98, v99], .int .u64 0] H1 fun v100 h101 => K (.tuple #[]) h101))))
def F109 (K : Value → Heap → Prop) (h : Heap) (xa xb xc : Option Addr) : Prop :=
  (g109 K h (Array.push h (.cells #[.pointer xa, .pointer xb, .pointer xc] 120)))
theorem call109 {K : Value → Heap → Prop} {h : Heap} {xa xb xc : Option Addr} (H : F109 K h xa xb xc) : CallH Tryz.prog 109 #[(.agg #[(.pointer xa), (.pointer xb), (.pointer xc)])] h K :=
  callH_mk Tryz.func109 (by kernel_rfl) (Eq.mp (by kernel_rfl) H)
abbrev g110 (K : Value → Heap → Prop) (h H1 : Heap) (xa xb : Int) : Prop :=
  (ldH H1 ⟨h.size, 0, none⟩ fun v0 => ldH H1 ⟨h.size, 1, none⟩ fun v1 => ldH H1 ⟨h.size, 2, none⟩ fun v2 => cf 192 #[.agg #[v0, v1, v2], .int .u64 xa, .int .i64 (IntKind.wrap .i64 (5 + (IntKind.wrap .i64 xb)))] H1 fun v3 h4 => asInt .i64 v3 fun n5 => K (.int .i64 n5) h4)
def F110 (K : Value → Heap → Prop) (h : Heap) (xa xb xc : Option Addr) (xd xe : Int) : Prop :=
  (g110 K h (Array.push h (.cells #[.pointer xa, .pointer xb, .pointer xc] 118)) xd xe)
theorem call110 {K : Value → Heap → Prop} {h : Heap} {xa xb xc : Option Addr} {xd xe : Int} (H : F110 K h xa xb xc xd xe) : CallH Tryz.prog 110 #[(.agg #[(.pointer xa), (.pointer xb), (.pointer xc)]), (.int .u64 xd), (.int .u64 xe)] h K :=
  callH_mk Tryz.func110 (by kernel_rfl) (Eq.mp (by kernel_rfl) H)
def F111 (K : Value → Heap → Prop) (h : Heap) (xa : Int) : Prop :=
  (cf 84 #[.int .u64 xa] h fun v0 h1 => asInt .i64 v0 fun n2 => K (.int .u64 (IntKind.wrap .u64 n2)) h1)
theorem call111 {K : Value → Heap → Prop} {h : Heap} {xa : Int} (H : F111 K h xa) : CallH Tryz.prog 111 #[(.int .u64 xa)] h K :=
  callH_mk Tryz.func111 (by kernel_rfl) (Eq.mp (by kernel_rfl) H)
def F112 (K : Value → Heap → Prop) (h : Heap) (xa : Int) : Prop :=
  (cf 171 #[.int .u64 xa] h fun v0 h1 => asBool v0 fun b2 => K (.bool b2) h1)
theorem call112 {K : Value → Heap → Prop} {h : Heap} {xa : Int} (H : F112 K h xa) : CallH Tryz.prog 112 #[(.int .u64 xa)] h K :=
  callH_mk Tryz.func112 (by kernel_rfl) (Eq.mp (by kernel_rfl) H)
abbrev g113 (K : Value → Heap → Prop) (h H1 : Heap) (xa : Int) : Prop :=
  (ldH H1 ⟨h.size, 0, none⟩ fun v0 => ldH H1 ⟨h.size, 1, none⟩ fun v1 => ldH H1 ⟨h.size, 2, none⟩ fun v2 => cf 193 #[.agg #[v0, v1, v2], .int .u64 xa, .int .u64 0, .int .u64 0] H1 fun v3 h4 => K (.tuple #[]) h4)
def F113 (K : Value → Heap → Prop) (h : Heap) (xa xb xc : Option Addr) (xd : Int) : Prop :=
  (g113 K h (Array.push h (.cells #[.pointer xa, .pointer xb, .pointer xc] 118)) xd)
theorem call113 {K : Value → Heap → Prop} {h : Heap} {xa xb xc : Option Addr} {xd : Int} (H : F113 K h xa xb xc xd) : CallH Tryz.prog 113 #[(.agg #[(.pointer xa), (.pointer xb), (.pointer xc)]), (.int .u64 xd)] h K :=
  callH_mk Tryz.func113 (by kernel_rfl) (Eq.mp (by kernel_rfl) H)
abbrev g114 (K : Value → Heap → Prop) (h H1 : Heap) (xa xb : Int) (xc : Option Addr) (xd xe : Nat) : Prop :=
  (lP H1 ⟨h.size, 2, none⟩ fun o1 => nP o1 fun a2 => stH H1 (Addr.add a2 1) (.int .i64 xa) fun h3 => lP h3 ⟨h.size, 1, none⟩ fun o5 => cf 38 #[.pointer o5, .int .i64 xb, .slice xc xd xe] h3 fun v6 h7 => K (.tuple #[]) h7)
def F114 (K : Value → Heap → Prop) (h : Heap) (xa xb xc : Option Addr) (xd xe : Int) (xf : Option Addr) (xg xh : Nat) : Prop :=
  (g114 K h (Array.push h (.cells #[.pointer xa, .pointer xb, .pointer xc] 118)) xd xe xf xg xh)
theorem call114 {K : Value → Heap → Prop} {h : Heap} {xa xb xc : Option Addr} {xd xe : Int} {xf : Option Addr} {xg xh : Nat} (H : F114 K h xa xb xc xd xe xf xg xh) : CallH Tryz.prog 114 #[(.agg #[(.pointer xa), (.pointer xb), (.pointer xc)]), (.int .i64 xd), (.int .i64 xe), (.slice xf xg xh)] h K :=
  callH_mk Tryz.func114 (by kernel_rfl) (Eq.mp (by kernel_rfl) H)
abbrev g115 (K : Value → Heap → Prop) (h H1 : Heap) (xa xb xc : Int) (xd : Bool) : Prop :=
  (ldH H1 ⟨h.size, 0, none⟩ fun v0 => asPtrO v0 fun o1 => cf 144 #[.int .u64 xb, .int .i64 (IntKind.wrap .i64 xc), .bool xd] H1 fun v2 h3 => asInt .u64 v2 fun n4 => ce h3 h.size 0 v0 (cf 152 #[.pointer o1, .int .i64 xa, .int .u64 xb, .int .u64 n4] h3 fun v5 h6 => asBool v5 fun b7 => K (.bool b7) h6))
def F115 (K : Value → Heap → Prop) (h : Heap) (xa xb xc : Option Addr) (xd xe xf : Int) (xg : Bool) : Prop :=
  (g115 K h (Array.push h (.cells #[.pointer xa, .pointer xb, .pointer xc] 118)) xd xe xf xg)
theorem call115 {K : Value → Heap → Prop} {h : Heap} {xa xb xc : Option Addr} {xd xe xf : Int} {xg : Bool} (H : F115 K h xa xb xc xd xe xf xg) : CallH Tryz.prog 115 #[(.agg #[(.pointer xa), (.pointer xb), (.pointer xc)]), (.int .i64 xd), (.int .u64 xe), (.int .u64 xf), (.bool xg)] h K :=
  callH_mk Tryz.func115 (by kernel_rfl) (Eq.mp (by kernel_rfl) H)
abbrev g118 (K : Value → Heap → Prop) (h H1 : Heap) : Prop :=
  (lP H1 (Addr.add ⟨h.size, 0, none⟩ 2) fun o1 => nP o1 fun a2 => bd 2 10 (lI .u64 H1 (Addr.add a2 4) fun n4 => nP o1 fun a5 => bd 2 10 (stH H1 (Addr.add a5 4) (.int .u64 (IntKind.wrap .u64 (n4 - 1))) fun h6 => lP h6 (Addr.add ⟨h.size, 0, none⟩ 2) fun o8 => nP o8 fun a9 => stH h6 (Addr.add a9 1) (.int .i64 1) fun h10 => K (.tuple #[]) h10)))
def F118 (K : Value → Heap → Prop) (h : Heap) (xa xb xc : Option Addr) : Prop :=
  (g118 K h (Array.push h (.cells #[.pointer xa, .pointer xb, .pointer xc] 123)))
theorem call118 {K : Value → Heap → Prop} {h : Heap} {xa xb xc : Option Addr} (H : F118 K h xa xb xc) : CallH Tryz.prog 118 #[(.agg #[(.pointer xa), (.pointer xb), (.pointer xc)])] h K :=
  callH_mk Tryz.func118 (by kernel_rfl) (Eq.mp (by kernel_rfl) H)
abbrev g119 (K : Value → Heap → Prop) (h H1 : Heap) (xa xb : Int) : Prop :=
  (lP H1 ⟨h.size, 0, none⟩ fun o1 => cf 117 #[.pointer o1] H1 fun v2 h3 => asAgg v2 fun vs4 => sizeH vs4 15 (elemH vs4 0 fun v5 => elemH vs4 1 fun v6 => elemH vs4 2 fun v7 => elemH vs4 3 fun v8 => elemH vs4 4 fun v9 => elemH vs4 5 fun v10 => elemH vs4 6 fun v11 => elemH vs4 7 fun v12 => elemH vs4 8 fun v13 => elemH vs4 9 fun v14 => elemH vs4 10 fun v15 => elemH vs4 11 fun v16 => elemH vs4 12 fun v17 => elemH vs4 13 fun v18 => elemH vs4 14 fun v19 => stH (Array.push h3 (.cells #[.int .i64 0, .int .i64 0, .int .i64 0, .int .i64 0, .int .i64 0, .int .i64 0, .int .i64 0, .int .i64 0, .int .i64 0, .int .i64 0, .int .i64 0, .int .i64 0, .int .i64 0, .int .i64 0, .int .i64 0] 69)) ⟨h3.size, 0, none⟩ v5 fun h20 => stH h20 ⟨h3.size, 1, none⟩ v6 fun h21 => stH h21 ⟨h3.size, 2, none⟩ v7 fun h22 => stH h22 ⟨h3.size, 3, none⟩ v8 fun h23 => stH h23 ⟨h3.size, 4, none⟩ v9 fun h24 => stH h24 ⟨h3.size, 5, none⟩ v10 fun h25 => stH h25 ⟨h3.size, 6, none⟩ v11 fun h26 => stH h26 ⟨h3.size, 7, none⟩ v12 fun h27 => stH h27 ⟨h3.size, 8, none⟩ v13 fun h28 => stH h28 ⟨h3.size, 9, none⟩ v14 fun h29 => stH h29 ⟨h3.size, 10, none⟩ v15 fun h30 => stH h30 ⟨h3.size, 11, none⟩ v16 fun h31 => stH h31 ⟨h3.size, 12, none⟩ v17 fun h32 => stH h32 ⟨h3.size, 13, none⟩ v18 fun h33 => stH h33 ⟨h3.size, 14, none⟩ v19 fun h34 => ldH h34 ⟨h.size, 0, none⟩ fun v35 => asPtrO v35 fun o36 => ldH h34 ⟨h3.size, 0, none⟩ fun v37 => ldH h34 ⟨h3.size, 1, none⟩ fun v38 => ldH h34 ⟨h3.size, 2, none⟩ fun v39 => ldH h34 ⟨h3.size, 3, none⟩ fun v40 => ldH h34 ⟨h3.size, 4, none⟩ fun v41 => ldH h34 ⟨h3.size, 5, none⟩ fun v42 => ldH h34 ⟨h3.size, 6, none⟩ fun v43 => ldH h34 ⟨h3.size, 7, none⟩ fun v44 => ldH h34 ⟨h3.size, 8, none⟩ fun v45 => ldH h34 ⟨h3.size, 9, none⟩ fun v46 => ldH h34 ⟨h3.size, 10, none⟩ fun v47 => ldH h34 ⟨h3.size, 11, none⟩ fun v48 => ldH h34 ⟨h3.size, 12, none⟩ fun v49 => ldH h34 ⟨h3.size, 13, none⟩ fun v50 => ldH h34 ⟨h3.size, 14, none⟩ fun v51 => ldH h34 ⟨h.size, 1, none⟩ fun v52 => asPtrO v52 fun o53 => nP o53 fun a54 => ldH h34 a54 fun v55 => asInt .i64 v55 fun n56 => ldH h34 ⟨h3.size, 0, none⟩ fun v57 => ldH h34 ⟨h3.size, 1, none⟩ fun v58 => ldH h34 ⟨h3.size, 2, none⟩ fun v59 => ldH h34 ⟨h3.size, 3, none⟩ fun v60 => ldH h34 ⟨h3.size, 4, none⟩ fun v61 => ldH h34 ⟨h3.size, 5, none⟩ fun v62 => ldH h34 ⟨h3.size, 6, none⟩ fun v63 => ldH h34 ⟨h3.size, 7, none⟩ fun v64 => ldH h34 ⟨h3.size, 8, none⟩ fun v65 => ldH h34 ⟨h3.size, 9, none⟩ fun v66 => ldH h34 ⟨h3.size, 10, none⟩ fun v67 => ldH h34 ⟨h3.size, 11, none⟩ fun v68 => ldH h34 ⟨h3.size, 12, none⟩ fun v69 => ldH h34 ⟨h3.size, 13, none⟩ fun v70 => ldH h34 ⟨h3.size, 14, none⟩ fun v71 => cf 149 #[.agg #[v57, v58, v59, v60, v61, v62, v63, v64, v65, v66, v67, v68, v69, v70, v71]] h34 fun v72 h73 => asInt .i64 v72 fun n74 => ((cellAt h73 a54) = (some v55)) ∧ (ce h73 h.size 1 v52 (ce h73 h3.size 0 v37 (ce h73 h3.size 1 v38 (ce h73 h3.size 2 v39 (ce h73 h3.size 3 v40 (ce h73 h3.size 4 v41 (ce h73 h3.size 5 v42 (ce h73 h3.size 6 v43 (ce h73 h3.size 7 v44 (ce h73 h3.size 8 v45 (ce h73 h3.size 9 v46 (ce h73 h3.size 10 v47 (ce h73 h3.size 11 v48 (ce h73 h3.size 12 v49 (ce h73 h3.size 13 v50 (ce h73 h3.size 14 v51 (ce h73 h.size 0 v35 (cf 130 #[.agg #[v37, v38, v39, v40, v41, v42, v43, v44, v45, v46, v47, v48, v49, v50, v51], .int .i64 n56, .int .i64 (IntKind.wrap .i64 ((IntKind.wrap .i64 (n74 - 1)) - (IntKind.wrap .i64 (IntKind.wrap .u64 ((((BitVec.ofInt 64 xa) &&& (BitVec.ofInt 64 1)).toNat : Nat) : Int)))))] h73 fun v75 h76 => asInt .i64 v75 fun n77 => ce h76 h.size 0 v35 (cf 129 #[.pointer o36, .int .i64 n77, .int .u64 xb] h76 fun v78 h79 => K (.tuple #[]) h79)))))))))))))))))))))
def F119 (K : Value → Heap → Prop) (h : Heap) (xa xb xc : Option Addr) (xd xe : Int) : Prop :=
  (g119 K h (Array.push h (.cells #[.pointer xa, .pointer xb, .pointer xc] 118)) xd xe)
theorem call119 {K : Value → Heap → Prop} {h : Heap} {xa xb xc : Option Addr} {xd xe : Int} (H : F119 K h xa xb xc xd xe) : CallH Tryz.prog 119 #[(.agg #[(.pointer xa), (.pointer xb), (.pointer xc)]), (.int .u64 xd), (.int .u64 xe)] h K :=
  callH_mk Tryz.func119 (by kernel_rfl) (Eq.mp (by kernel_rfl) H)
abbrev g120 (K : Value → Heap → Prop) (h H1 : Heap) : Prop :=
  (lP H1 (Addr.add ⟨h.size, 0, none⟩ 2) fun o1 => nP o1 fun a2 => lI .i64 H1 (Addr.add a2 1) fun n4 => ifB (n4 == 4) (exI fun I5 => (nP o1 fun a6 => bd 4 10 (lI .u64 H1 (Addr.add a6 6) fun n8 => nP o1 fun a9 => bd 0 10 (lI .u64 H1 (Addr.add a9 2) fun n11 => ifB (n8 == n11) (I5 [.bool true, .bool true] H1) (ldH H1 ⟨h.size, 0, none⟩ fun v12 => asPtrO v12 fun o13 => ldH H1 ⟨h.size, 0, none⟩ fun v14 => ldH H1 (Addr.add ⟨h.size, 0, none⟩ 1) fun v15 => ldH H1 (Addr.add ⟨h.size, 0, none⟩ 2) fun v16 => nP o1 fun a17 => bd 4 10 (lI .u64 H1 (Addr.add a17 6) fun n19 => cf 110 #[.agg #[v14, v15, v16], .int .u64 n19, .int .u64 0] H1 fun v20 h21 => asInt .i64 v20 fun n22 => ce h21 h.size 0 v12 (cf 85 #[.pointer o13, .int .i64 n22] h21 fun v23 h24 => asInt .u64 v23 fun n25 => cf 112 #[.int .u64 n25] h24 fun v26 h27 => asBool v26 fun b28 => I5 [.bool b28, .bool b28] h27)))))) ∧ (∀ (v29 v30 : Value) (g31 : Env) (h32 : Heap), (I5 [v29, v30] h32) → (asBool v29 fun b33 => ifB b33 (nP o1 fun a34 => stH h32 (Addr.add a34 1) (.int .i64 5) fun h35 => K (.tuple #[]) h35) (nP o1 fun a36 => bd 4 10 (ldH h32 (Addr.add a36 6) fun v37 => asInt .u64 v37 fun n38 => nP o1 fun a39 => bd 3 10 (lI .u64 h32 (Addr.add a39 5) fun n41 => cf 111 #[.int .u64 n41] h32 fun v42 h43 => asInt .u64 v42 fun n44 => ((cellAt h43 (Addr.add a36 6)) = (some v37)) ∧ (ifB (n38 == n44) (ldH h43 ⟨h.size, 0, none⟩ fun v45 => ldH h43 ⟨h.size, 1, none⟩ fun v46 => ldH h43 ⟨h.size, 2, none⟩ fun v47 => cf 118 #[.agg #[v45, v46, v47]] h43 fun v48 h49 => K (.tuple #[]) h49) (nP o1 fun a50 => stH h43 (Addr.add a50 1) (.int .i64 6) fun h51 => K (.tuple #[]) h51)))))))) (ifB (n4 == 5) (ldH H1 ⟨h.size, 0, none⟩ fun v52 => asPtrO v52 fun o53 => ldH H1 ⟨h.size, 0, none⟩ fun v54 => ldH H1 (Addr.add ⟨h.size, 0, none⟩ 1) fun v55 => ldH H1 (Addr.add ⟨h.size, 0, none⟩ 2) fun v56 => nP o1 fun a57 => bd 4 10 (lI .u64 H1 (Addr.add a57 6) fun n59 => nP o1 fun a60 => bd 2 10 (lI .u64 H1 (Addr.add a60 4) fun n62 => nP o1 fun a63 => cf 110 #[.agg #[v54, v55, v56], .int .u64 n59, .int .u64 n62] H1 fun v64 h65 => asInt .i64 v64 fun n66 => ce h65 h.size 0 v52 (cf 85 #[.pointer o53, .int .i64 n66] h65 fun v67 h68 => asInt .u64 v67 fun n69 => cf 111 #[.int .u64 n69] h68 fun v70 h71 => asInt .u64 v70 fun n72 => bd 4 10 (stH h71 (Addr.add a63 6) (.int .u64 n72) fun h73 => nP o1 fun a74 => stH h73 (Addr.add a74 1) (.int .i64 2) fun h75 => nP o1 fun a76 => bd 4 10 (lI .u64 h75 (Addr.add a76 6) fun n78 => ifB (n78 == 2) (nP o1 fun a79 => stH h75 (Addr.add a79 1) (.int .i64 6) fun h80 => K (.tuple #[]) h80) (K (.tuple #[]) h75))))))) (ldH H1 ⟨h.size, 0, none⟩ fun v81 => ldH H1 (Addr.add ⟨h.size, 0, none⟩ 1) fun v82 => ldH H1 (Addr.add ⟨h.size, 0, none⟩ 2) fun v83 => ldH H1 ⟨h.size, 0, none⟩ fun v84 => ldH H1 (Addr.add ⟨h.size, 0, none⟩ 1) fun v85 => ldH H1 (Addr.add ⟨h.size, 0, none⟩ 2) fun v86 => nP o1 fun a87 => bd 2 10 (lI .u64 H1 (Addr.add a87 4) fun n89 => nP o1 fun a90 => bd 3 10 (ldH H1 (Addr.add a90 5) fun v91 => asInt .u64 v91 fun n92 => nP o1 fun a93 => bd 4 10 (ldH H1 (Addr.add a93 6) fun v94 => asInt .u64 v94 fun n95 => cf 110 #[.agg #[v84, v85, v86], .int .u64 1, .int .u64 n89] H1 fun v96 h97 => asInt .i64 v96 fun n98 => ((cellAt h97 (Addr.add a93 6)) = (some v94)) ∧ (((cellAt h97 (Addr.add a90 5)) = (some v91)) ∧ (ce h97 h.size 0 v81 (((cellAt h97 (Addr.add ⟨h.size, 0, none⟩ 1)) = (some v82)) ∧ (((cellAt h97 (Addr.add ⟨h.size, 0, none⟩ 2)) = (some v83)) ∧ (cf 115 #[.agg #[v81, v82, v83], .int .i64 n98, .int .u64 n92, .int .u64 n95, .bool false] h97 fun v99 h100 => asBool v99 fun b101 => ifB b101 (ldH h100 ⟨h.size, 0, none⟩ fun v102 => ldH h100 ⟨h.size, 1, none⟩ fun v103 => ldH h100 ⟨h.size, 2, none⟩ fun v104 => cf 118 #[.agg #[v102, v103, v104]] h100 fun v105 h106 => K (.tuple #[]) h106) (nP o1 fun a107 => stH h100 (Addr.add a107 1) (.int .i64 1) fun h108 => K (.tuple #[]) h108))))))))))))
def F120 (K : Value → Heap → Prop) (h : Heap) (xa xb xc : Option Addr) : Prop :=
  (g120 K h (Array.push h (.cells #[.pointer xa, .pointer xb, .pointer xc] 123)))
theorem call120 {K : Value → Heap → Prop} {h : Heap} {xa xb xc : Option Addr} (H : F120 K h xa xb xc) : CallH Tryz.prog 120 #[(.agg #[(.pointer xa), (.pointer xb), (.pointer xc)])] h K :=
  callH_mk Tryz.func120 (by kernel_rfl) (Eq.mp (by kernel_rfl) H)
abbrev g121 (K : Value → Heap → Prop) (h H1 : Heap) : Prop :=
  (lP H1 (Addr.add ⟨h.size, 0, none⟩ 2) fun o1 => nP o1 fun a2 => lI .i64 H1 (Addr.add a2 1) fun n4 => ifB (n4 == 0) (lP H1 ⟨h.size, 0, none⟩ fun o6 => nP o1 fun a7 => cf 85 #[.pointer o6, .int .i64 1] H1 fun v8 h9 => asInt .u64 v8 fun n10 => bd 0 10 (stH h9 (Addr.add a7 2) (.int .u64 n10) fun h11 => nP o1 fun a12 => bd 2 10 (nP o1 fun a13 => nP o1 fun a14 => stH h11 (Addr.add a12 4) (.int .u64 1) fun h15 => bd 3 10 (stH h15 (Addr.add a13 5) (.int .u64 0) fun h16 => bd 4 10 (stH h16 (Addr.add a14 6) (.int .u64 0) fun h17 => nP o1 fun a18 => stH h17 (Addr.add a18 1) (.int .i64 1) fun h19 => K (.tuple #[]) h19))))) (ifB (n4 == 1) (ldH H1 ⟨h.size, 0, none⟩ fun v20 => asPtrO v20 fun o21 => ldH H1 ⟨h.size, 0, none⟩ fun v22 => ldH H1 (Addr.add ⟨h.size, 0, none⟩ 1) fun v23 => ldH H1 (Addr.add ⟨h.size, 0, none⟩ 2) fun v24 => nP o1 fun a25 => cf 110 #[.agg #[v22, v23, v24], .int .u64 1, .int .u64 0] H1 fun v26 h27 => asInt .i64 v26 fun n28 => ce h27 h.size 0 v20 (cf 85 #[.pointer o21, .int .i64 n28] h27 fun v29 h30 => asInt .u64 v29 fun n31 => bd 1 10 (stH h30 (Addr.add a25 3) (.int .u64 n31) fun h32 => nP o1 fun a33 => bd 1 10 (lI .u64 h32 (Addr.add a33 3) fun n35 => nP o1 fun a36 => bd 5 10 (stH h32 (Addr.add a36 7) (.int .u64 n35) fun h37 => nP o1 fun a38 => stH h37 (Addr.add a38 1) (.int .i64 2) fun h39 => K (.tuple #[]) h39))))) (ifB (n4 == 2) (nP o1 fun a40 => stH H1 (Addr.add a40 1) (.int .i64 3) fun h41 => ldH h41 ⟨h.size, 0, none⟩ fun v42 => ldH h41 ⟨h.size, 1, none⟩ fun v43 => ldH h41 ⟨h.size, 2, none⟩ fun v44 => cf 195 #[.agg #[v42, v43, v44]] h41 fun v45 h46 => asInt .u64 v45 fun n47 => ifB (n47 == 2) (ldH h46 ⟨h.size, 0, none⟩ fun v48 => ldH h46 (Addr.add ⟨h.size, 0, none⟩ 1) fun v49 => ldH h46 (Addr.add ⟨h.size, 0, none⟩ 2) fun v50 => cf 113 #[.agg #[v48, v49, v50], .int .u64 3] h46 fun v51 h52 => K (.tuple #[]) h52) (K (.tuple #[]) h46)) (ifB (n4 == 3) (ldH H1 ⟨h.size, 0, none⟩ fun v53 => ldH H1 (Addr.add ⟨h.size, 0, none⟩ 1) fun v54 => ldH H1 (Addr.add ⟨h.size, 0, none⟩ 2) fun v55 => nP o1 fun a56 => bd 3 10 (ldH H1 (Addr.add a56 5) fun v57 => asInt .u64 v57 fun n58 => ldH H1 ⟨h.size, 0, none⟩ fun v59 => ldH H1 ⟨h.size, 1, none⟩ fun v60 => ldH H1 ⟨h.size, 2, none⟩ fun v61 => cf 195 #[.agg #[v59, v60, v61]] H1 fun v62 h63 => asInt .u64 v62 fun n64 => ((cellAt h63 (Addr.add a56 5)) = (some v57)) ∧ (ce h63 h.size 0 v53 (((cellAt h63 (Addr.add ⟨h.size, 0, none⟩ 1)) = (some v54)) ∧ (((cellAt h63 (Addr.add ⟨h.size, 0, none⟩ 2)) = (some v55)) ∧ (cf 119 #[.agg #[v53, v54, v55], .int .u64 n58, .int .u64 n64] h63 fun v65 h66 => nP o1 fun a67 => bd 3 10 (lI .u64 h66 (Addr.add a67 5) fun n69 => nP o1 fun a70 => bd 3 10 (stH h66 (Addr.add a70 5) (.int .u64 (IntKind.wrap .u64 (n69 + 1))) fun h71 => nP o1 fun a72 => stH h71 (Addr.add a72 1) (.int .i64 4) fun h73 => K (.tuple #[]) h73)))))))) (ifB (n4 == 4) (nP o1 fun a74 => stH H1 (Addr.add a74 1) (.int .i64 5) fun h75 => lP h75 ⟨h.size, 0, none⟩ fun o77 => nP o1 fun a78 => bd 0 10 (ldH h75 (Addr.add a78 2) fun v79 => asInt .u64 v79 fun n80 => cf 85 #[.pointer o77, .int .i64 1] h75 fun v81 h82 => asInt .u64 v81 fun n83 => ((cellAt h82 (Addr.add a78 2)) = (some v79)) ∧ (ifB (n83 != n80) (nP o1 fun a84 => stH h82 (Addr.add a84 1) (.int .i64 0) fun h85 => K (.tuple #[]) h85) (K (.tuple #[]) h82)))) (K (.tuple #[]) H1))))))
def F121 (K : Value → Heap → Prop) (h : Heap) (xa xb xc : Option Addr) : Prop :=
  (g121 K h (Array.push h (.cells #[.pointer xa, .pointer xb, .pointer xc] 124)))
theorem call121 {K : Value → Heap → Prop} {h : Heap} {xa xb xc : Option Addr} (H : F121 K h xa xb xc) : CallH Tryz.prog 121 #[(.agg #[(.pointer xa), (.pointer xb), (.pointer xc)])] h K :=
  callH_mk Tryz.func121 (by kernel_rfl) (Eq.mp (by kernel_rfl) H)
abbrev g122 (K : Value → Heap → Prop) (h H1 : Heap) : Prop :=
  (lP H1 (Addr.add ⟨h.size, 0, none⟩ 2) fun o1 => nP o1 fun a2 => lI .i64 H1 (Addr.add a2 1) fun n4 => ifB (n4 == 5) (nP o1 fun a5 => stH H1 (Addr.add a5 1) (.int .i64 6) fun h6 => exI fun I7 => (nP o1 fun a8 => bd 2 10 (lI .u64 h6 (Addr.add a8 4) fun n10 => ifB (n10 != 1) (nP o1 fun a11 => bd 4 10 (lI .u64 h6 (Addr.add a11 6) fun n13 => ifB (n13 == 0) (ldH h6 ⟨h.size, 0, none⟩ fun v14 => asPtrO v14 fun o15 => ldH h6 ⟨h.size, 0, none⟩ fun v16 => ldH h6 (Addr.add ⟨h.size, 0, none⟩ 1) fun v17 => ldH h6 (Addr.add ⟨h.size, 0, none⟩ 2) fun v18 => nP o1 fun a19 => bd 2 10 (lI .u64 h6 (Addr.add a19 4) fun n21 => cf 192 #[.agg #[v16, v17, v18], .int .u64 n21, .int .i64 2] h6 fun v22 h23 => asInt .i64 v22 fun n24 => ce h23 h.size 0 v14 (cf 85 #[.pointer o15, .int .i64 n24] h23 fun v25 h26 => asInt .u64 v25 fun n27 => I7 [.bool (n13 == 0), .bool (n27 == 1)] h26))) (I7 [.bool (n13 == 0), .bool false] h6))) (I7 [.bool false, .bool false] h6))) ∧ (∀ (v28 v29 : Value) (g30 : Env) (h31 : Heap), (I7 [v28, v29] h31) → (asBool v29 fun b32 => ifB b32 (nP o1 fun a33 => bd 2 10 (lI .u64 h31 (Addr.add a33 4) fun n35 => nP o1 fun a36 => bd 4 10 (stH h31 (Addr.add a36 6) (.int .u64 n35) fun h37 => K (.tuple #[]) h37))) (K (.tuple #[]) h31)))) (ifB (n4 == 6) (nP o1 fun a38 => stH H1 (Addr.add a38 1) (.int .i64 8) fun h39 => nP o1 fun a40 => bd 5 10 (lI .u64 h39 (Addr.add a40 7) fun n42 => cf 112 #[.int .u64 n42] h39 fun v43 h44 => asBool v43 fun b45 => ifB b45 (ldH h44 ⟨h.size, 0, none⟩ fun v46 => ldH h44 ⟨h.size, 1, none⟩ fun v47 => ldH h44 ⟨h.size, 2, none⟩ fun v48 => nP o1 fun a49 => cf 195 #[.agg #[v46, v47, v48]] h44 fun v50 h51 => asInt .u64 v50 fun n52 => bd 2 10 (stH h51 (Addr.add a49 4) (.int .u64 n52) fun h53 => nP o1 fun a54 => stH h53 (Addr.add a54 1) (.int .i64 7) fun h55 => K (.tuple #[]) h55)) (nP o1 fun a56 => lI .i64 h44 a56 fun n58 => ifB (n58 == 33) (nP o1 fun a59 => stH h44 (Addr.add a59 1) (.int .i64 9) fun h60 => K (.tuple #[]) h60) (K (.tuple #[]) h44)))) (ifB (n4 == 7) (ldH H1 ⟨h.size, 0, none⟩ fun v61 => asPtrO v61 fun o62 => ldH H1 ⟨h.size, 0, none⟩ fun v63 => ldH H1 (Addr.add ⟨h.size, 0, none⟩ 1) fun v64 => ldH H1 (Addr.add ⟨h.size, 0, none⟩ 2) fun v65 => nP o1 fun a66 => bd 2 10 (lI .u64 H1 (Addr.add a66 4) fun n68 => nP o1 fun a69 => cf 110 #[.agg #[v63, v64, v65], .int .u64 n68, .int .u64 0] H1 fun v70 h71 => asInt .i64 v70 fun n72 => ce h71 h.size 0 v61 (cf 85 #[.pointer o62, .int .i64 n72] h71 fun v73 h74 => asInt .u64 v73 fun n75 => bd 5 10 (stH h74 (Addr.add a69 7) (.int .u64 n75) fun h76 => nP o1 fun a77 => stH h76 (Addr.add a77 1) (.int .i64 2) fun h78 => K (.tuple #[]) h78)))) (ifB (n4 == 8) (nP o1 fun a79 => stH H1 (Addr.add a79 1) (.int .i64 9) fun h80 => ldH h80 ⟨h.size, 0, none⟩ fun v81 => ldH h80 (Addr.add ⟨h.size, 0, none⟩ 1) fun v82 => ldH h80 (Addr.add ⟨h.size, 0, none⟩ 2) fun v83 => ldH h80 ⟨h.size, 0, none⟩ fun v84 => ldH h80 (Addr.add ⟨h.size, 0, none⟩ 1) fun v85 => ldH h80 (Addr.add ⟨h.size, 0, none⟩ 2) fun v86 => nP o1 fun a87 => bd 2 10 (lI .u64 h80 (Addr.add a87 4) fun n89 => nP o1 fun a90 => bd 5 10 (ldH h80 (Addr.add a90 7) fun v91 => asInt .u64 v91 fun n92 => ldH h80 ⟨h.size, 0, none⟩ fun v93 => ldH h80 ⟨h.size, 1, none⟩ fun v94 => ldH h80 ⟨h.size, 2, none⟩ fun v95 => cf 110 #[.agg #[v84, v85, v86], .int .u64 n89, .int .u64 0] h80 fun v96 h97 => asInt .i64 v96 fun n98 => ce h97 h.size 0 v93 (ce h97 h.size 1 v94 (ce h97 h.size 2 v95 (((cellAt h97 (Addr.add a90 7)) = (some v91)) ∧ (ce h97 h.size 0 v81 (((cellAt h97 (Addr.add ⟨h.size, 0, none⟩ 1)) = (some v82)) ∧ (((cellAt h97 (Addr.add ⟨h.size, 0, none⟩ 2)) = (some v83)) ∧ (cf 195 #[.agg #[v93, v94, v95]] h97 fun v99 h100 => asInt .u64 v99 fun n101 => ((cellAt h100 (Addr.add a90 7)) = (some v91)) ∧ (ce h100 h.size 0 v81 (((cellAt h100 (Addr.add ⟨h.size, 0, none⟩ 1)) = (some v82)) ∧ (((cellAt h100 (Addr.add ⟨h.size, 0, none⟩ 2)) = (some v83)) ∧ (cf 115 #[.agg #[v81, v82, v83], .int .i64 n98, .int .u64 n92, .int .u64 n101, .bool true] h100 fun v102 h103 => asBool v102 fun b104 => ifB (!b104) (nP o1 fun a105 => bd 3 10 (lI .u64 h103 (Addr.add a105 5) fun n107 => nP o1 fun a108 => bd 3 10 (stH h103 (Addr.add a108 5) (.int .u64 (IntKind.wrap .u64 (n107 - 1))) fun h109 => nP o1 fun a110 => stH h109 (Addr.add a110 1) (.int .i64 7) fun h111 => K (.tuple #[]) h111))) (K (.tuple #[]) h103))))))))))))))) (K (.tuple #[]) H1)))))
def F122 (K : Value → Heap → Prop) (h : Heap) (xa xb xc : Option Addr) : Prop :=
  (g122 K h (Array.push h (.cells #[.pointer xa, .pointer xb, .pointer xc] 124)))
theorem call122 {K : Value → Heap → Prop} {h : Heap} {xa xb xc : Option Addr} (H : F122 K h xa xb xc) : CallH Tryz.prog 122 #[(.agg #[(.pointer xa), (.pointer xb), (.pointer xc)])] h K :=
  callH_mk Tryz.func122 (by kernel_rfl) (Eq.mp (by kernel_rfl) H)
abbrev g123 (K : Value → Heap → Prop) (h H1 : Heap) : Prop :=
  (lP H1 (Addr.add ⟨h.size, 0, none⟩ 2) fun o1 => nP o1 fun a2 => lI .i64 H1 (Addr.add a2 1) fun n4 => ifB (n4 == 9) (ldH H1 ⟨h.size, 0, none⟩ fun v5 => asPtrO v5 fun o6 => ldH H1 ⟨h.size, 0, none⟩ fun v7 => ldH H1 (Addr.add ⟨h.size, 0, none⟩ 1) fun v8 => ldH H1 (Addr.add ⟨h.size, 0, none⟩ 2) fun v9 => ldH H1 ⟨h.size, 0, none⟩ fun v10 => ldH H1 ⟨h.size, 1, none⟩ fun v11 => ldH H1 ⟨h.size, 2, none⟩ fun v12 => nP o1 fun a13 => cf 195 #[.agg #[v10, v11, v12]] H1 fun v14 h15 => asInt .u64 v14 fun n16 => ce h15 h.size 0 v7 (((cellAt h15 (Addr.add ⟨h.size, 0, none⟩ 1)) = (some v8)) ∧ (((cellAt h15 (Addr.add ⟨h.size, 0, none⟩ 2)) = (some v9)) ∧ (ce h15 h.size 0 v5 (cf 192 #[.agg #[v7, v8, v9], .int .u64 n16, .int .i64 1] h15 fun v17 h18 => asInt .i64 v17 fun n19 => ce h18 h.size 0 v5 (cf 85 #[.pointer o6, .int .i64 n19] h18 fun v20 h21 => asInt .u64 v20 fun n22 => bd 6 10 (stH h21 (Addr.add a13 8) (.int .u64 n22) fun h23 => nP o1 fun a24 => stH h23 (Addr.add a24 1) (.int .i64 10) fun h25 => K (.tuple #[]) h25))))))) (ifB (n4 == 10) (ldH H1 ⟨h.size, 0, none⟩ fun v26 => asPtrO v26 fun o27 => ldH H1 ⟨h.size, 0, none⟩ fun v28 => ldH H1 (Addr.add ⟨h.size, 0, none⟩ 1) fun v29 => ldH H1 (Addr.add ⟨h.size, 0, none⟩ 2) fun v30 => ldH H1 ⟨h.size, 0, none⟩ fun v31 => ldH H1 ⟨h.size, 1, none⟩ fun v32 => ldH H1 ⟨h.size, 2, none⟩ fun v33 => nP o1 fun a34 => cf 195 #[.agg #[v31, v32, v33]] H1 fun v35 h36 => asInt .u64 v35 fun n37 => ce h36 h.size 0 v28 (((cellAt h36 (Addr.add ⟨h.size, 0, none⟩ 1)) = (some v29)) ∧ (((cellAt h36 (Addr.add ⟨h.size, 0, none⟩ 2)) = (some v30)) ∧ (ce h36 h.size 0 v26 (cf 192 #[.agg #[v28, v29, v30], .int .u64 n37, .int .i64 0] h36 fun v38 h39 => asInt .i64 v38 fun n40 => ce h39 h.size 0 v26 (cf 85 #[.pointer o27, .int .i64 n40] h39 fun v41 h42 => asInt .u64 v41 fun n43 => cf 196 #[.int .u64 n43] h42 fun v44 h45 => asInt .u32 v44 fun n46 => bd 8 10 (stH h45 (Addr.add a34 10) (.int .u64 (IntKind.wrap .u64 n46)) fun h47 => nP o1 fun a48 => stH h47 (Addr.add a48 1) (.int .i64 11) fun h49 => exI fun I50 => (exI fun I51 => (nP o1 fun a52 => lI .i64 h49 a52 fun n54 => ifB (n54 == 33) (I51 [.bool true] h49) (nP o1 fun a55 => bd 3 10 (ldH h49 (Addr.add a55 5) fun v56 => asInt .u64 v56 fun n57 => lP h49 ⟨h.size, 0, none⟩ fun o59 => cf 117 #[.pointer o59] h49 fun v60 h61 => asAgg v60 fun vs62 => sizeH vs62 15 (elemH vs62 0 fun v63 => elemH vs62 1 fun v64 => elemH vs62 2 fun v65 => elemH vs62 3 fun v66 => elemH vs62 4 fun v67 => elemH vs62 5 fun v68 => elemH vs62 6 fun v69 => elemH vs62 7 fun v70 => elemH vs62 8 fun v71 => elemH vs62 9 fun v72 => elemH vs62 10 fun v73 => elemH vs62 11 fun v74 => elemH vs62 12 fun v75 => elemH vs62 13 fun v76 => elemH vs62 14 fun v77 => ((cellAt h61 (Addr.add a55 5)) = (some v56)) ∧ (cf 62 #[.agg #[v63, v64, v65, v66, v67, v68, v69, v70, v71, v72, v73, v74, v75, v76, v77]] h61 fun v78 h79 => asAgg v78 fun vs80 => sizeH vs80 7 (elemH vs80 0 fun v81 => elemH vs80 1 fun v82 => elemH vs80 2 fun v83 => elemH vs80 3 fun v84 => elemH vs80 4 fun v85 => elemH vs80 5 fun v86 => elemH vs80 6 fun v87 => ((cellAt h79 (Addr.add a55 5)) = (some v56)) ∧ (asInt .i64 v85 fun n88 => I51 [.bool (decide (n57 < (IntKind.wrap .u64 n88)))] h79))))))) ∧ (∀ (v89 : Value) (g90 : Env) (h91 : Heap), (I51 [v89] h91) → (asBool v89 fun b92 => ifB b92 (nP o1 fun a93 => stH h91 (Addr.add a93 1) (.int .i64 14) fun h94 => I50 [] h94) (I50 [] h91)))) ∧ (∀ (g95 : Env) (h96 : Heap), (I50 [] h96) → (nP o1 fun a97 => bd 4 10 (lI .u64 h96 (Addr.add a97 6) fun n99 => ifB (n99 == 0) (ldH h96 ⟨h.size, 0, none⟩ fun v100 => ldH h96 ⟨h.size, 1, none⟩ fun v101 => ldH h96 ⟨h.size, 2, none⟩ fun v102 => nP o1 fun a103 => cf 195 #[.agg #[v100, v101, v102]] h96 fun v104 h105 => asInt .u64 v104 fun n106 => bd 4 10 (stH h105 (Addr.add a103 6) (.int .u64 n106) fun h107 => K (.tuple #[]) h107)) (K (.tuple #[]) h96))))))))))) (K (.tuple #[]) H1)))
def F123 (K : Value → Heap → Prop) (h : Heap) (xa xb xc : Option Addr) : Prop :=
  (g123 K h (Array.push h (.cells #[.pointer xa, .pointer xb, .pointer xc] 124)))
theorem call123 {K : Value → Heap → Prop} {h : Heap} {xa xb xc : Option Addr} (H : F123 K h xa xb xc) : CallH Tryz.prog 123 #[(.agg #[(.pointer xa), (.pointer xb), (.pointer xc)])] h K :=
  callH_mk Tryz.func123 (by kernel_rfl) (Eq.mp (by kernel_rfl) H)
abbrev g124 (K : Value → Heap → Prop) (h H1 : Heap) : Prop :=
  (lP H1 (Addr.add ⟨h.size, 0, none⟩ 2) fun o1 => nP o1 fun a2 => lI .i64 H1 (Addr.add a2 1) fun n4 => ifB (n4 == 11) (nP o1 fun a5 => stH H1 (Addr.add a5 1) (.int .i64 14) fun h6 => ldH h6 ⟨h.size, 0, none⟩ fun v7 => ldH h6 (Addr.add ⟨h.size, 0, none⟩ 1) fun v8 => ldH h6 (Addr.add ⟨h.size, 0, none⟩ 2) fun v9 => ldH h6 ⟨h.size, 0, none⟩ fun v10 => ldH h6 (Addr.add ⟨h.size, 0, none⟩ 1) fun v11 => ldH h6 (Addr.add ⟨h.size, 0, none⟩ 2) fun v12 => nP o1 fun a13 => bd 1 10 (ldH h6 (Addr.add a13 3) fun v14 => asInt .u64 v14 fun n15 => nP o1 fun a16 => bd 4 10 (ldH h6 (Addr.add a16 6) fun v17 => asInt .u64 v17 fun n18 => cf 110 #[.agg #[v10, v11, v12], .int .u64 1, .int .u64 0] h6 fun v19 h20 => asInt .i64 v19 fun n21 => ((cellAt h20 (Addr.add a16 6)) = (some v17)) ∧ (((cellAt h20 (Addr.add a13 3)) = (some v14)) ∧ (ce h20 h.size 0 v7 (((cellAt h20 (Addr.add ⟨h.size, 0, none⟩ 1)) = (some v8)) ∧ (((cellAt h20 (Addr.add ⟨h.size, 0, none⟩ 2)) = (some v9)) ∧ (cf 115 #[.agg #[v7, v8, v9], .int .i64 n21, .int .u64 n15, .int .u64 n18, .bool true] h20 fun v22 h23 => asBool v22 fun b24 => ifB b24 (nP o1 fun a25 => stH h23 (Addr.add a25 1) (.int .i64 12) fun h26 => K (.tuple #[]) h26) (K (.tuple #[]) h23))))))))) (ifB (n4 == 12) (ldH H1 ⟨h.size, 0, none⟩ fun v27 => ldH H1 (Addr.add ⟨h.size, 0, none⟩ 1) fun v28 => ldH H1 (Addr.add ⟨h.size, 0, none⟩ 2) fun v29 => cf 114 #[.agg #[v27, v28, v29], .int .i64 13, .int .i64 36, .slice (some ⟨H1.size, 0, none⟩) 1 1] (Array.push H1 (.cells #[.int .u64 0] 65)) fun v30 h31 => K (.tuple #[]) h31) (ifB (n4 == 13) (ldH H1 ⟨h.size, 0, none⟩ fun v32 => ldH H1 (Addr.add ⟨h.size, 0, none⟩ 1) fun v33 => ldH H1 (Addr.add ⟨h.size, 0, none⟩ 2) fun v34 => nP o1 fun a35 => bd 1 10 (lI .u64 H1 (Addr.add a35 3) fun n37 => nP o1 fun a38 => bd 4 10 (ldH H1 (Addr.add a38 6) fun v39 => asInt .u64 v39 fun n40 => cf 111 #[.int .u64 n37] H1 fun v41 h42 => asInt .u64 v41 fun n43 => ((cellAt h42 (Addr.add a38 6)) = (some v39)) ∧ (ce h42 h.size 0 v32 (((cellAt h42 (Addr.add ⟨h.size, 0, none⟩ 1)) = (some v33)) ∧ (((cellAt h42 (Addr.add ⟨h.size, 0, none⟩ 2)) = (some v34)) ∧ (((cellAt (Array.push h42 (.cells #[.int .u64 n43, .int .u64 n40] 65)) ⟨h.size, 0, none⟩) = (some v32)) ∧ (((cellAt (Array.push h42 (.cells #[.int .u64 n43, .int .u64 n40] 65)) (Addr.add ⟨h.size, 0, none⟩ 1)) = (some v33)) ∧ (((cellAt (Array.push h42 (.cells #[.int .u64 n43, .int .u64 n40] 65)) (Addr.add ⟨h.size, 0, none⟩ 2)) = (some v34)) ∧ (cf 114 #[.agg #[v32, v33, v34], .int .i64 14, .int .i64 35, .slice (some ⟨h42.size, 0, none⟩) 2 2] (Array.push h42 (.cells #[.int .u64 n43, .int .u64 n40] 65)) fun v44 h45 => K (.tuple #[]) h45)))))))))) (ldH H1 ⟨h.size, 0, none⟩ fun v46 => ldH H1 (Addr.add ⟨h.size, 0, none⟩ 1) fun v47 => ldH H1 (Addr.add ⟨h.size, 0, none⟩ 2) fun v48 => nP o1 fun a49 => bd 8 10 (lI .u64 H1 (Addr.add a49 10) fun n51 => nP o1 fun a52 => bd 6 10 (lI .u64 H1 (Addr.add a52 8) fun n54 => cf 193 #[.agg #[v46, v47, v48], .int .u64 2, .int .u64 n51, .int .u64 n54] H1 fun v55 h56 => K (.tuple #[]) h56))))))
def F124 (K : Value → Heap → Prop) (h : Heap) (xa xb xc : Option Addr) : Prop :=
  (g124 K h (Array.push h (.cells #[.pointer xa, .pointer xb, .pointer xc] 124)))
theorem call124 {K : Value → Heap → Prop} {h : Heap} {xa xb xc : Option Addr} (H : F124 K h xa xb xc) : CallH Tryz.prog 124 #[(.agg #[(.pointer xa), (.pointer xb), (.pointer xc)])] h K :=
  callH_mk Tryz.func124 (by kernel_rfl) (Eq.mp (by kernel_rfl) H)
abbrev g184 (K : Value → Heap → Prop) (h H1 : Heap) : Prop :=
  (lP H1 (Addr.add ⟨h.size, 0, none⟩ 2) fun o1 => lP H1 ⟨h.size, 0, none⟩ fun o3 => nP o1 fun a4 => cf 85 #[.pointer o3, .int .i64 1] H1 fun v5 h6 => asInt .u64 v5 fun n7 => bd 1 10 (stH h6 (Addr.add a4 3) (.int .u64 n7) fun h8 => nP o1 fun a9 => bd 3 10 (nP o1 fun a10 => stH h8 (Addr.add a9 5) (.int .u64 1) fun h11 => bd 5 10 (stH h11 (Addr.add a10 7) (.int .u64 0) fun h12 => lP h12 ⟨h.size, 0, none⟩ fun o14 => nP o1 fun a15 => cf 117 #[.pointer o14] h12 fun v16 h17 => asAgg v16 fun vs18 => sizeH vs18 15 (elemH vs18 0 fun v19 => elemH vs18 1 fun v20 => elemH vs18 2 fun v21 => elemH vs18 3 fun v22 => elemH vs18 4 fun v23 => elemH vs18 5 fun v24 => elemH vs18 6 fun v25 => elemH vs18 7 fun v26 => elemH vs18 8 fun v27 => elemH vs18 9 fun v28 => elemH vs18 10 fun v29 => elemH vs18 11 fun v30 => elemH vs18 12 fun v31 => elemH vs18 13 fun v32 => elemH vs18 14 fun v33 => cf 62 #[.agg #[v19, v20, v21, v22, v23, v24, v25, v26, v27, v28, v29, v30, v31, v32, v33]] h17 fun v34 h35 => asAgg v34 fun vs36 => sizeH vs36 7 (elemH vs36 0 fun v37 => elemH vs36 1 fun v38 => elemH vs36 2 fun v39 => elemH vs36 3 fun v40 => elemH vs36 4 fun v41 => elemH vs36 5 fun v42 => elemH vs36 6 fun v43 => asInt .i64 v40 fun n44 => bd 2 10 (stH h35 (Addr.add a15 4) (.int .u64 (IntKind.wrap .u64 (IntKind.wrap .i64 (n44 - 1)))) fun h45 => nP o1 fun a46 => stH h45 (Addr.add a46 1) (.int .i64 1) fun h47 => K (.tuple #[]) h47)))))))
def F184 (K : Value → Heap → Prop) (h : Heap) (xa xb xc : Option Addr) : Prop :=
  (g184 K h (Array.push h (.cells #[.pointer xa, .pointer xb, .pointer xc] 160)))
theorem call184 {K : Value → Heap → Prop} {h : Heap} {xa xb xc : Option Addr} (H : F184 K h xa xb xc) : CallH Tryz.prog 184 #[(.agg #[(.pointer xa), (.pointer xb), (.pointer xc)])] h K :=
  callH_mk Tryz.func184 (by kernel_rfl) (Eq.mp (by kernel_rfl) H)
abbrev g185 (K : Value → Heap → Prop) (h H1 : Heap) (xa : Int) : Prop :=
  (lP H1 ⟨h.size, 0, none⟩ fun o1 => ldH H1 ⟨h.size, 1, none⟩ fun v2 => asPtrO v2 fun o3 => nP o3 fun a4 => ldH H1 a4 fun v5 => asInt .i64 v5 fun n6 => cf 117 #[.pointer o1] H1 fun v7 h8 => asAgg v7 fun vs9 => sizeH vs9 15 (elemH vs9 0 fun v10 => elemH vs9 1 fun v11 => elemH vs9 2 fun v12 => elemH vs9 3 fun v13 => elemH vs9 4 fun v14 => elemH vs9 5 fun v15 => elemH vs9 6 fun v16 => elemH vs9 7 fun v17 => elemH vs9 8 fun v18 => elemH vs9 9 fun v19 => elemH vs9 10 fun v20 => elemH vs9 11 fun v21 => elemH vs9 12 fun v22 => elemH vs9 13 fun v23 => elemH vs9 14 fun v24 => ((cellAt h8 a4) = (some v5)) ∧ (ce h8 h.size 1 v2 (cf 130 #[.agg #[v10, v11, v12, v13, v14, v15, v16, v17, v18, v19, v20, v21, v22, v23, v24], .int .i64 n6, .int .i64 xa] h8 fun v25 h26 => asInt .i64 v25 fun n27 => K (.int .i64 n27) h26))))
def F185 (K : Value → Heap → Prop) (h : Heap) (xa xb xc : Option Addr) (xd : Int) : Prop :=
  (g185 K h (Array.push h (.cells #[.pointer xa, .pointer xb, .pointer xc] 158)) xd)
theorem call185 {K : Value → Heap → Prop} {h : Heap} {xa xb xc : Option Addr} {xd : Int} (H : F185 K h xa xb xc xd) : CallH Tryz.prog 185 #[(.agg #[(.pointer xa), (.pointer xb), (.pointer xc)]), (.int .i64 xd)] h K :=
  callH_mk Tryz.func185 (by kernel_rfl) (Eq.mp (by kernel_rfl) H)
abbrev g186 (K : Value → Heap → Prop) (h H1 : Heap) : Prop :=
  (lP H1 ⟨h.size, 2, none⟩ fun o1 => nP o1 fun a2 => bd 2 10 (lI .u64 H1 (Addr.add a2 4) fun n4 => K (.int .i64 (IntKind.wrap .i64 n4)) H1))
def F186 (K : Value → Heap → Prop) (h : Heap) (xa xb xc : Option Addr) : Prop :=
  (g186 K h (Array.push h (.cells #[.pointer xa, .pointer xb, .pointer xc] 158)))
theorem call186 {K : Value → Heap → Prop} {h : Heap} {xa xb xc : Option Addr} (H : F186 K h xa xb xc) : CallH Tryz.prog 186 #[(.agg #[(.pointer xa), (.pointer xb), (.pointer xc)])] h K :=
  callH_mk Tryz.func186 (by kernel_rfl) (Eq.mp (by kernel_rfl) H)
abbrev g187 (K : Value → Heap → Prop) (h H1 : Heap) (xa xb : Int) : Prop :=
  (lP H1 ⟨h.size, 0, none⟩ fun o1 => cf 117 #[.pointer o1] H1 fun v2 h3 => asAgg v2 fun vs4 => sizeH vs4 15 (elemH vs4 0 fun v5 => elemH vs4 1 fun v6 => elemH vs4 2 fun v7 => elemH vs4 3 fun v8 => elemH vs4 4 fun v9 => elemH vs4 5 fun v10 => elemH vs4 6 fun v11 => elemH vs4 7 fun v12 => elemH vs4 8 fun v13 => elemH vs4 9 fun v14 => elemH vs4 10 fun v15 => elemH vs4 11 fun v16 => elemH vs4 12 fun v17 => elemH vs4 13 fun v18 => elemH vs4 14 fun v19 => cf 66 #[.agg #[v5, v6, v7, v8, v9, v10, v11, v12, v13, v14, v15, v16, v17, v18, v19], .int .i64 (IntKind.wrap .i64 xa), .int .i64 xb] h3 fun v20 h21 => asInt .i64 v20 fun n22 => K (.int .i64 n22) h21))
def F187 (K : Value → Heap → Prop) (h : Heap) (xa xb xc : Option Addr) (xd xe : Int) : Prop :=
  (g187 K h (Array.push h (.cells #[.pointer xa, .pointer xb, .pointer xc] 158)) xd xe)
theorem call187 {K : Value → Heap → Prop} {h : Heap} {xa xb xc : Option Addr} {xd xe : Int} (H : F187 K h xa xb xc xd xe) : CallH Tryz.prog 187 #[(.agg #[(.pointer xa), (.pointer xb), (.pointer xc)]), (.int .u64 xd), (.int .i64 xe)] h K :=
  callH_mk Tryz.func187 (by kernel_rfl) (Eq.mp (by kernel_rfl) H)
abbrev g188 (K : Value → Heap → Prop) (h H1 : Heap) : Prop :=
  (ldH H1 ⟨h.size, 0, none⟩ fun v0 => ldH H1 ⟨h.size, 1, none⟩ fun v1 => ldH H1 ⟨h.size, 2, none⟩ fun v2 => cf 222 #[.agg #[v0, v1, v2]] H1 fun v3 h4 => asInt .u64 v3 fun n5 => cf 84 #[.int .u64 n5] h4 fun v6 h7 => asInt .i64 v6 fun n8 => K (.int .u64 (IntKind.wrap .u64 n8)) h7)
def F188 (K : Value → Heap → Prop) (h : Heap) (xa xb xc : Option Addr) : Prop :=
  (g188 K h (Array.push h (.cells #[.pointer xa, .pointer xb, .pointer xc] 158)))
theorem call188 {K : Value → Heap → Prop} {h : Heap} {xa xb xc : Option Addr} (H : F188 K h xa xb xc) : CallH Tryz.prog 188 #[(.agg #[(.pointer xa), (.pointer xb), (.pointer xc)])] h K :=
  callH_mk Tryz.func188 (by kernel_rfl) (Eq.mp (by kernel_rfl) H)
abbrev g189 (K : Value → Heap → Prop) (h H1 : Heap) : Prop :=
  (ldH H1 (Addr.add ⟨h.size, 0, none⟩ 2) fun v0 => asPtrO v0 fun o1 => ldH H1 ⟨h.size, 0, none⟩ fun v2 => ldH H1 (Addr.add ⟨h.size, 0, none⟩ 1) fun v3 => ldH H1 (Addr.add ⟨h.size, 0, none⟩ 2) fun v4 => cf 186 #[.agg #[v2, v3, v4]] H1 fun v5 h6 => asInt .i64 v5 fun n7 => ((cellAt h6 (Addr.add ⟨h.size, 0, none⟩ 2)) = (some v0)) ∧ (ldH h6 (Addr.add ⟨h.size, 0, none⟩ 1) fun v8 => asPtrO v8 fun o9 => nP o9 fun a10 => ldH h6 (Addr.add a10 5) fun v11 => asSlice v11 fun o12 k13 k14 => ldH h6 (Addr.add ⟨h.size, 0, none⟩ 1) fun v15 => asPtrO v15 fun o16 => nP o16 fun a17 => ldH h6 (Addr.add a17 7) fun v18 => asSlice v18 fun o19 k20 k21 => ldH h6 (Addr.add ⟨h.size, 0, none⟩ 1) fun v22 => asPtrO v22 fun o23 => nP o23 fun a24 => ldH h6 (Addr.add a24 6) fun v25 => asSlice v25 fun o26 k27 k28 => nP o1 fun a29 => bd 3 10 (ldH h6 (Addr.add a29 5) fun v30 => asInt .u64 v30 fun n31 => nP o1 fun a32 => bd 4 10 (ldH h6 (Addr.add a32 6) fun v33 => asInt .u64 v33 fun n34 => ldH h6 ⟨h.size, 0, none⟩ fun v35 => ldH h6 (Addr.add ⟨h.size, 0, none⟩ 1) fun v36 => ldH h6 (Addr.add ⟨h.size, 0, none⟩ 2) fun v37 => cf 188 #[.agg #[v35, v36, v37]] h6 fun v38 h39 => asInt .u64 v38 fun n40 => ((cellAt h39 (Addr.add a32 6)) = (some v33)) ∧ (((cellAt h39 (Addr.add a29 5)) = (some v30)) ∧ (((cellAt h39 (Addr.add a24 6)) = (some v25)) ∧ (((cellAt h39 (Addr.add ⟨h.size, 0, none⟩ 1)) = (some v22)) ∧ (((cellAt h39 (Addr.add a17 7)) = (some v18)) ∧ (((cellAt h39 (Addr.add ⟨h.size, 0, none⟩ 1)) = (some v15)) ∧ (((cellAt h39 (Addr.add a10 5)) = (some v11)) ∧ (((cellAt h39 (Addr.add ⟨h.size, 0, none⟩ 1)) = (some v8)) ∧ (bd n7 (k13 : Int) (asPtr (.pointer o12) fun a41 => stH h39 (Addr.add a41 (n7.toNat * 1)) (.int .u64 n31) fun h42 => bd n7 (k20 : Int) (asPtr (.pointer o19) fun a43 => stH h42 (Addr.add a43 (n7.toNat * 1)) (.int .u64 n34) fun h44 => bd n7 (k27 : Int) (asPtr (.pointer o26) fun a45 => stH h44 (Addr.add a45 (n7.toNat * 1)) (.int .u64 n40) fun h46 => ifB (n7 == 0) (ldH h46 (Addr.add ⟨h.size, 0, none⟩ 1) fun v47 => asPtrO v47 fun o48 => nP o1 fun a49 => bd 5 10 (lI .u64 h46 (Addr.add a49 7) fun n51 => ((cellAt (Array.push h46 (.cells #[.int .u64 n51] 65)) (Addr.add ⟨h.size, 0, none⟩ 1)) = (some v47)) ∧ (cf 44 #[.pointer o48, .slice (some ⟨h46.size, 0, none⟩) 1 1] (Array.push h46 (.cells #[.int .u64 n51] 65)) fun v52 h53 => K (.tuple #[]) h53))) (nP o1 fun a54 => bd 2 10 (lI .u64 h46 (Addr.add a54 4) fun n56 => nP o1 fun a57 => bd 2 10 (stH h46 (Addr.add a57 4) (.int .u64 (IntKind.wrap .u64 (n56 - 1))) fun h58 => nP o1 fun a59 => stH h58 (Addr.add a59 1) (.int .i64 1) fun h60 => K (.tuple #[]) h60))))))))))))))))))
def F189 (K : Value → Heap → Prop) (h : Heap) (xa xb xc : Option Addr) : Prop :=
  (g189 K h (Array.push h (.cells #[.pointer xa, .pointer xb, .pointer xc] 160)))
theorem call189 {K : Value → Heap → Prop} {h : Heap} {xa xb xc : Option Addr} (H : F189 K h xa xb xc) : CallH Tryz.prog 189 #[(.agg #[(.pointer xa), (.pointer xb), (.pointer xc)])] h K :=
  callH_mk Tryz.func189 (by kernel_rfl) (Eq.mp (by kernel_rfl) H)
abbrev g190 (K : Value → Heap → Prop) (h H1 : Heap) : Prop :=
  (lP H1 (Addr.add ⟨h.size, 0, none⟩ 2) fun o1 => lP H1 ⟨h.size, 0, none⟩ fun o3 => nP o1 fun a4 => bd 1 10 (ldH H1 (Addr.add a4 3) fun v5 => asInt .u64 v5 fun n6 => cf 85 #[.pointer o3, .int .i64 1] H1 fun v7 h8 => asInt .u64 v7 fun n9 => ((cellAt h8 (Addr.add a4 3)) = (some v5)) ∧ (ifB (n9 != n6) (nP o1 fun a10 => stH h8 (Addr.add a10 1) (.int .i64 0) fun h11 => K (.tuple #[]) h11) (exI fun I12 => (ldH h8 ⟨h.size, 0, none⟩ fun v13 => ldH h8 (Addr.add ⟨h.size, 0, none⟩ 1) fun v14 => ldH h8 (Addr.add ⟨h.size, 0, none⟩ 2) fun v15 => cf 186 #[.agg #[v13, v14, v15]] h8 fun v16 h17 => asInt .i64 v16 fun n18 => ifB (n18 == 0) (ldH h17 ⟨h.size, 0, none⟩ fun v19 => ldH h17 (Addr.add ⟨h.size, 0, none⟩ 1) fun v20 => ldH h17 (Addr.add ⟨h.size, 0, none⟩ 2) fun v21 => cf 222 #[.agg #[v19, v20, v21]] h17 fun v22 h23 => asInt .u64 v22 fun n24 => cf 171 #[.int .u64 n24] h23 fun v25 h26 => asBool v25 fun b27 => I12 [.bool b27, .bool b27] h26) (I12 [.bool false, .bool false] h17)) ∧ (∀ (v28 v29 : Value) (g30 : Env) (h31 : Heap), (I12 [v28, v29] h31) → (asBool v28 fun b32 => ifB b32 (ldH h31 ⟨h.size, 0, none⟩ fun v33 => ldH h31 (Addr.add ⟨h.size, 0, none⟩ 1) fun v34 => ldH h31 (Addr.add ⟨h.size, 0, none⟩ 2) fun v35 => nP o1 fun a36 => cf 188 #[.agg #[v33, v34, v35]] h31 fun v37 h38 => asInt .u64 v37 fun n39 => bd 5 10 (stH h38 (Addr.add a36 7) (.int .u64 n39) fun h40 => ldH h40 ⟨h.size, 0, none⟩ fun v41 => ldH h40 ⟨h.size, 1, none⟩ fun v42 => ldH h40 ⟨h.size, 2, none⟩ fun v43 => cf 191 #[.agg #[v41, v42, v43]] h40 fun v44 h45 => K (.tuple #[]) h45)) (ldH h31 ⟨h.size, 0, none⟩ fun v46 => ldH h31 (Addr.add ⟨h.size, 0, none⟩ 1) fun v47 => ldH h31 (Addr.add ⟨h.size, 0, none⟩ 2) fun v48 => cf 186 #[.agg #[v46, v47, v48]] h31 fun v49 h50 => asInt .i64 v49 fun n51 => ifB (decide (n51 > 0)) (nP o1 fun a52 => stH h50 (Addr.add a52 1) (.int .i64 5) fun h53 => K (.tuple #[]) h53) (nP o1 fun a54 => stH h50 (Addr.add a54 1) (.int .i64 6) fun h55 => K (.tuple #[]) h55))))))))
def F190 (K : Value → Heap → Prop) (h : Heap) (xa xb xc : Option Addr) : Prop :=
  (g190 K h (Array.push h (.cells #[.pointer xa, .pointer xb, .pointer xc] 160)))
theorem call190 {K : Value → Heap → Prop} {h : Heap} {xa xb xc : Option Addr} (H : F190 K h xa xb xc) : CallH Tryz.prog 190 #[(.agg #[(.pointer xa), (.pointer xb), (.pointer xc)])] h K :=
  callH_mk Tryz.func190 (by kernel_rfl) (Eq.mp (by kernel_rfl) H)
abbrev g191 (K : Value → Heap → Prop) (h H1 : Heap) : Prop :=
  (ldH H1 (Addr.add ⟨h.size, 0, none⟩ 2) fun v0 => asPtrO v0 fun o1 => ldH H1 ⟨h.size, 0, none⟩ fun v2 => ldH H1 (Addr.add ⟨h.size, 0, none⟩ 1) fun v3 => ldH H1 (Addr.add ⟨h.size, 0, none⟩ 2) fun v4 => nP o1 fun a5 => cf 188 #[.agg #[v2, v3, v4]] H1 fun v6 h7 => asInt .u64 v6 fun n8 => ((cellAt h7 (Addr.add ⟨h.size, 0, none⟩ 2)) = (some v0)) ∧ (bd 3 10 (stH h7 (Addr.add a5 5) (.int .u64 n8) fun h9 => lP h9 (Addr.add ⟨h.size, 0, none⟩ 2) fun o11 => nP o11 fun a12 => stH h9 (Addr.add a12 1) (.int .i64 1) fun h13 => K (.tuple #[]) h13)))
def F191 (K : Value → Heap → Prop) (h : Heap) (xa xb xc : Option Addr) : Prop :=
  (g191 K h (Array.push h (.cells #[.pointer xa, .pointer xb, .pointer xc] 160)))
theorem call191 {K : Value → Heap → Prop} {h : Heap} {xa xb xc : Option Addr} (H : F191 K h xa xb xc) : CallH Tryz.prog 191 #[(.agg #[(.pointer xa), (.pointer xb), (.pointer xc)])] h K :=
  callH_mk Tryz.func191 (by kernel_rfl) (Eq.mp (by kernel_rfl) H)
abbrev g192 (K : Value → Heap → Prop) (h H1 : Heap) (xa xb : Int) : Prop :=
  (lP H1 ⟨h.size, 0, none⟩ fun o1 => cf 117 #[.pointer o1] H1 fun v2 h3 => asAgg v2 fun vs4 => sizeH vs4 15 (elemH vs4 0 fun v5 => elemH vs4 1 fun v6 => elemH vs4 2 fun v7 => elemH vs4 3 fun v8 => elemH vs4 4 fun v9 => elemH vs4 5 fun v10 => elemH vs4 6 fun v11 => elemH vs4 7 fun v12 => elemH vs4 8 fun v13 => elemH vs4 9 fun v14 => elemH vs4 10 fun v15 => elemH vs4 11 fun v16 => elemH vs4 12 fun v17 => elemH vs4 13 fun v18 => elemH vs4 14 fun v19 => cf 66 #[.agg #[v5, v6, v7, v8, v9, v10, v11, v12, v13, v14, v15, v16, v17, v18, v19], .int .i64 (IntKind.wrap .i64 xa), .int .i64 xb] h3 fun v20 h21 => asInt .i64 v20 fun n22 => K (.int .i64 n22) h21))
def F192 (K : Value → Heap → Prop) (h : Heap) (xa xb xc : Option Addr) (xd xe : Int) : Prop :=
  (g192 K h (Array.push h (.cells #[.pointer xa, .pointer xb, .pointer xc] 118)) xd xe)
theorem call192 {K : Value → Heap → Prop} {h : Heap} {xa xb xc : Option Addr} {xd xe : Int} (H : F192 K h xa xb xc xd xe) : CallH Tryz.prog 192 #[(.agg #[(.pointer xa), (.pointer xb), (.pointer xc)]), (.int .u64 xd), (.int .i64 xe)] h K :=
  callH_mk Tryz.func192 (by kernel_rfl) (Eq.mp (by kernel_rfl) H)
abbrev g193 (K : Value → Heap → Prop) (h H1 : Heap) (xa xb xc : Int) : Prop :=
  (lP H1 ⟨h.size, 2, none⟩ fun o1 => ldH H1 ⟨h.size, 2, none⟩ fun v2 => asPtrO v2 fun o3 => ldH H1 ⟨h.size, 2, none⟩ fun v4 => asPtrO v4 fun o5 => nP o1 fun a6 => bd 7 10 (nP o3 fun a7 => nP o5 fun a8 => stH H1 (Addr.add a6 9) (.int .u64 xa) fun h9 => ce h9 h.size 2 v4 (ce h9 h.size 2 v2 (bd 8 10 (stH h9 (Addr.add a7 10) (.int .u64 xb) fun h10 => ce h10 h.size 2 v4 (bd 9 10 (stH h10 (Addr.add a8 11) (.int .u64 xc) fun h11 => ldH h11 ⟨h.size, 0, none⟩ fun v12 => ldH h11 ⟨h.size, 1, none⟩ fun v13 => ldH h11 ⟨h.size, 2, none⟩ fun v14 => cf 114 #[.agg #[v12, v13, v14], .int .i64 90, .int .i64 4, .slice none 0 0] h11 fun v15 h16 => K (.tuple #[]) h16)))))))
def F193 (K : Value → Heap → Prop) (h : Heap) (xa xb xc : Option Addr) (xd xe xf : Int) : Prop :=
  (g193 K h (Array.push h (.cells #[.pointer xa, .pointer xb, .pointer xc] 118)) xd xe xf)
theorem call193 {K : Value → Heap → Prop} {h : Heap} {xa xb xc : Option Addr} {xd xe xf : Int} (H : F193 K h xa xb xc xd xe xf) : CallH Tryz.prog 193 #[(.agg #[(.pointer xa), (.pointer xb), (.pointer xc)]), (.int .u64 xd), (.int .u64 xe), (.int .u64 xf)] h K :=
  callH_mk Tryz.func193 (by kernel_rfl) (Eq.mp (by kernel_rfl) H)
abbrev g195 (K : Value → Heap → Prop) (h H1 : Heap) : Prop :=
  (lP H1 (Addr.add ⟨h.size, 0, none⟩ 2) fun o1 => nP o1 fun a2 => bd 5 10 (lI .u64 H1 (Addr.add a2 7) fun n4 => cf 111 #[.int .u64 n4] H1 fun v5 h6 => asInt .u64 v5 fun n7 => K (.int .u64 n7) h6))
def F195 (K : Value → Heap → Prop) (h : Heap) (xa xb xc : Option Addr) : Prop :=
  (g195 K h (Array.push h (.cells #[.pointer xa, .pointer xb, .pointer xc] 124)))
theorem call195 {K : Value → Heap → Prop} {h : Heap} {xa xb xc : Option Addr} (H : F195 K h xa xb xc) : CallH Tryz.prog 195 #[(.agg #[(.pointer xa), (.pointer xb), (.pointer xc)])] h K :=
  callH_mk Tryz.func195 (by kernel_rfl) (Eq.mp (by kernel_rfl) H)
abbrev g222 (K : Value → Heap → Prop) (h H1 : Heap) : Prop :=
  (lP H1 ⟨h.size, 2, none⟩ fun o1 => nP o1 fun a2 => bd 4 10 (lI .u64 H1 (Addr.add a2 6) fun n4 => K (.int .u64 n4) H1))
def F222 (K : Value → Heap → Prop) (h : Heap) (xa xb xc : Option Addr) : Prop :=
  (g222 K h (Array.push h (.cells #[.pointer xa, .pointer xb, .pointer xc] 158)))
theorem call222 {K : Value → Heap → Prop} {h : Heap} {xa xb xc : Option Addr} (H : F222 K h xa xb xc) : CallH Tryz.prog 222 #[(.agg #[(.pointer xa), (.pointer xb), (.pointer xc)])] h K :=
  callH_mk Tryz.func222 (by kernel_rfl) (Eq.mp (by kernel_rfl) H)
end
section
open Mod
section
variable {K : Value → Heap → Prop} {h : Heap} {M T b o N : Nat} {tv : Value} {fo : Option (Nat × Nat)} {x : Run} {R : Hp}
theorem load_p (x : Run) (a : Int) : (x.load a).2.m.p = x.m.p := by
  show (x.m.load a).2.p = x.m.p
  unfold Mac.load
  dsimp only
  have : (x.m.touch a).p = x.m.p := by unfold Mac.touch; split <;> rfl
  split <;> exact this
theorem s64_wptr (w : Int) : s64 (wptr w) = wptr w := by have := wptr_rng w; unfold s64; omega
theorem na_wptr (x : Run) (w f : Int) : x.na (wptr w) f = x.m.p.node (wptr w) f := by unfold Run.na; rw [s64_wptr]
theorem loRow_call (H : Sat h (RunS M T tv (some (b, o)) x R)) (k : ∀ h', Old h.size h h' → K (.int .i64 (s64 (x.f.g 2))) h') :
    CallH Tryz.prog 186 #[rV M T b o] h K := by
  refine call186 ?_
  unfold F186 g186 bd lP lI nP
  have oo : Old h.size h (h.push (.cells #[mP M, mP T, fP b o] 158)) := (Old.refl _ _).push _ (Nat.le_refl _)
  have H1 := RunS.new H (.cells #[mP M, mP T, fP b o] 158); generalize h.push (.cells #[mP M, mP T, fP b o] 158) = h1 at *; generalize h.size = N at *
  try simp +decide only [nilC, bsx, Nat.reduceAdd, Int.reduceLE, Int.reduceLT, Int.reduceToNat, rsx, g_s, g_s_ne, RunS.al H1]
  exact k h1 oo
theorem loWord_call (H : Sat h (RunS M T tv (some (b, o)) x R)) (k : ∀ h', Old h.size h h' → K (.int .u64 (x.f.g 4)) h') :
    CallH Tryz.prog 222 #[rV M T b o] h K := by
  refine call222 ?_
  unfold F222 g222 bd lP lI nP
  have oo : Old h.size h (h.push (.cells #[mP M, mP T, fP b o] 158)) := (Old.refl _ _).push _ (Nat.le_refl _)
  have H1 := RunS.new H (.cells #[mP M, mP T, fP b o] 158); generalize h.push (.cells #[mP M, mP T, fP b o] 158) = h1 at *; generalize h.size = N at *
  try simp +decide only [nilC, bsx, Nat.reduceAdd, Int.reduceLE, Int.reduceLT, Int.reduceToNat, rsx, g_s, g_s_ne, RunS.al H1]
  exact k h1 oo
theorem loNext_call (H : Sat h (RunS M T tv (some (b, o)) x R)) (k : ∀ h', Old h.size h h' → K (.int .u64 (wptr (x.f.g 4))) h') :
    CallH Tryz.prog 188 #[rV M T b o] h K := by
  refine call188 ?_
  unfold F188 g188 cf
  have B := RunS.fB H
  have oo : Old h.size h (h.push (.cells #[mP M, mP T, fP b o] 158)) := (Old.refl _ _).push _ (Nat.le_refl _)
  have s1 := oo.1
  have H1 := RunS.new H (.cells #[mP M, mP T, fP b o] 158); generalize h.push (.cells #[mP M, mP T, fP b o] 158) = h1 at *; generalize h.size = N at *
  try simp +decide only [nilC, bsx, Nat.reduceAdd, Int.reduceLE, Int.reduceLT, Int.reduceToNat, rsx, g_s, g_s_ne, RunS.al H1]
  refine callV_fn (loWord_call H1 fun h2 o2 => ?_)
  try simp only [nilC, bsx, Nat.reduceAdd, Int.reduceLE, Int.reduceLT, Int.reduceToNat]
  refine callV_fn (wPtr_call (B.g 4) ?_)
  try simp only [nilC, bsx, Nat.reduceAdd, Int.reduceLE, Int.reduceLT, Int.reduceToNat]
  exact k h2 (oo.trans (o2.mono s1))
theorem loAt_call (H : Sat h (RunS M T tv fo x R)) {n f : Int} (hf : iN f) (k : ∀ h', Old h.size h h' → K (.int .i64 (x.na n f)) h') :
    CallH Tryz.prog 187 #[rV M T b o, .int .u64 n, .int .i64 f] h K := by
  refine call187 ?_
  unfold F187 g187 cf lP
  have oo : Old h.size h (h.push (.cells #[mP M, mP T, fP b o] 158)) := (Old.refl _ _).push _ (Nat.le_refl _)
  have s1 := oo.1
  have H1 := RunS.new H (.cells #[mP M, mP T, fP b o] 158); generalize h.push (.cells #[mP M, mP T, fP b o] 158) = h1 at *; generalize h.size = N at *
  try simp only [nilC, bsx, Nat.reduceAdd, Int.reduceLE, Int.reduceLT, Int.reduceToNat, RunS.l H1]
  refine callV_fn (rPlanO H1 fun h2 o2 => pl15 ?_)
  refine callV_fn (plNode_call (RunS.pl H) (s64_iN _) hf fun h3 o3 => ?_)
  try simp only [nilC, bsx, Nat.reduceAdd, Int.reduceLE, Int.reduceLT, Int.reduceToNat]
  exact k h3 (oo.trans ((o2.trans (o3.mono o2.1)).mono s1))
theorem loSlot_call (H : Sat h (RunS M T tv (some (b, o)) x R)) (O : Ok x) {i : Int} (hi : iN i) (k : ∀ h', Old h.size h h' → K (.int .i64 (x.m.p.haz x.id i)) h') :
    CallH Tryz.prog 185 #[rV M T b o, .int .i64 i] h K := by
  refine call185 ?_
  unfold F185 g185 cf ce lP nP
  have oo : Old h.size h (h.push (.cells #[mP M, mP T, fP b o] 158)) := (Old.refl _ _).push _ (Nat.le_refl _)
  have s1 := oo.1
  have H1 := RunS.new H (.cells #[mP M, mP T, fP b o] 158); generalize h.push (.cells #[mP M, mP T, fP b o] 158) = h1 at *; generalize h.size = N at *
  try simp +decide only [nilC, bsx, Nat.reduceAdd, Int.reduceLE, Int.reduceLT, Int.reduceToNat, rsx, g_s, g_s_ne, RunS.al H1]
  refine callV_fn (rPlanO H1 fun h2 o2 => pl15 ?_)
  have H2 := RunS.old H1 o2
  try simp +decide only [nilC, bsx, Nat.reduceAdd, Int.reduceLE, Int.reduceLT, Int.reduceToNat, rsx, g_s, g_s_ne, RunS.al H2]
  refine callV_fn (plHaz_call (RunS.pl H) O.id hi fun h3 o3 => ?_)
  try simp only [nilC, bsx, Nat.reduceAdd, Int.reduceLE, Int.reduceLT, Int.reduceToNat]
  exact k h3 (oo.trans ((o2.trans (o3.mono o2.1)).mono s1))
theorem loPass_call (H : Sat h (RunS M T tv (some (b, o)) x R)) (k : ∀ h', Sat h' (RunS M T tv none (lPass x) R) → K (.tuple #[]) h') :
    CallH Tryz.prog 191 #[rV M T b o] h K := by
  refine call191 ?_
  unfold F191 g191 cf bd lP nP
  unfold lPass at k
  have H1 := RunS.new H (.cells #[mP M, mP T, fP b o] 160); generalize h.push (.cells #[mP M, mP T, fP b o] 160) = h1 at *; generalize h.size = N at *
  try simp +decide only [nilC, bsx, Nat.reduceAdd, Int.reduceLE, Int.reduceLT, Int.reduceToNat, rsx, g_s, g_s_ne, RunS.al H1]
  refine callV_fn (loNext_call H1 fun h2 o2 => ?_)
  have H2 := RunS.old H1 o2
  try simp +decide only [nilC, bsx, Nat.reduceAdd, Int.reduceLE, Int.reduceLT, Int.reduceToNat, rsx, g_s, g_s_ne, RunS.al H2]
  refine RunS.stR (i := 3) H2 rfl (wptr_U _) fun h3 H3 => ?_
  try simp +decide only [nilC, bsx, Nat.reduceAdd, Int.reduceLE, Int.reduceLT, Int.reduceToNat, rsx, g_s, g_s_ne, RunS.al H3]
  exact RunS.stP H3 fun h4 H4 => k h4 (RunS.drp (RunS.none H4))
theorem loBegin_call (H : Sat h (RunS M T tv (some (b, o)) x R)) (O : Ok x) (k : ∀ h', Sat h' (RunS M T tv none (((((( x.load 1).2.s 1 (x.load 1).1).s 3 1).s 5 0).s 2 (u64 (x.m.p.c.level - 1))).pc 1) R) → K (.tuple #[]) h') :
    CallH Tryz.prog 184 #[rV M T b o] h K := by
  refine call184 ?_
  unfold F184 g184 cf bd lP nP
  have P := RunS.pl H
  have H1 := RunS.new H (.cells #[mP M, mP T, fP b o] 160); generalize h.push (.cells #[mP M, mP T, fP b o] 160) = h1 at *; generalize h.size = N at *
  try simp +decide only [nilC, bsx, Nat.reduceAdd, Int.reduceLE, Int.reduceLT, Int.reduceToNat, rsx, g_s, g_s_ne, RunS.al H1]
  refine callV_fn (rLoad H1 (by decide) O.st fun h2 H2 u2 => ?_)
  try simp +decide only [nilC, bsx, Nat.reduceAdd, Int.reduceLE, Int.reduceLT, Int.reduceToNat, rsx, g_s, g_s_ne, RunS.al H2]
  refine RunS.stR (i := 1) H2 rfl u2 fun h3 H3 => ?_
  try simp +decide only [nilC, bsx, Nat.reduceAdd, Int.reduceLE, Int.reduceLT, Int.reduceToNat, rsx, g_s, g_s_ne, RunS.al H3]
  refine RunS.stR (i := 3) H3 rfl (U.lit rfl) fun h4 H4 => ?_
  try simp +decide only [nilC, bsx, Nat.reduceAdd, Int.reduceLE, Int.reduceLT, Int.reduceToNat, rsx, g_s, g_s_ne, RunS.al H4]
  refine RunS.stR (i := 5) H4 rfl U0 fun h5 H5 => ?_
  try simp +decide only [nilC, bsx, Nat.reduceAdd, Int.reduceLE, Int.reduceLT, Int.reduceToNat, rsx, g_s, g_s_ne, RunS.al H5]
  refine callV_fn (rPlanO H5 fun h6 o6 => pl15 ?_)
  have H6 := RunS.old H5 o6
  try simp +decide only [nilC, bsx, Nat.reduceAdd, Int.reduceLE, Int.reduceLT, Int.reduceToNat, rsx, g_s, g_s_ne, RunS.al H6]
  refine callV_fn (plConf_call fun h7 o7 => cf7 ?_)
  have H7 := RunS.old H6 o7
  try simp +decide only [nilC, bsx, Nat.reduceAdd, Int.reduceLE, Int.reduceLT, Int.reduceToNat, rsx, g_s, g_s_ne, RunS.al H7]
  have em : (x.load 1).2.m.p = x.m.p := load_p x 1
  have em2 : (((( x.load 1).2.s 1 (x.load 1).1).s 3 1).s 5 0).m.p = x.m.p := em
  rw [em2]
  refine RunS.stR (i := 2) H7 rfl (u64_U _) fun h8 H8 => ?_
  exact RunS.stP H8 fun h9 H9 => k h9 (RunS.drp (RunS.none H9))
theorem loSettle_call (H : Sat h (RunS M T tv (some (b, o)) x R)) (hr : RowOk x (x.f.g 2)) (k : ∀ h', Sat h' (RunS M T tv none (lSettle x) R) → K (.tuple #[]) h') :
    CallH Tryz.prog 189 #[rV M T b o] h K := by
  refine call189 ?_
  unfold F189 g189 cf bd lI nP
  have B := RunS.fB H
  have TB := RunS.B H
  obtain ⟨⟨r0, r1⟩, e1, e2, e3⟩ := hr
  unfold lSettle at k
  dsimp only at k
  have H1 := RunS.new H (.cells #[mP M, mP T, fP b o] 160); generalize h.push (.cells #[mP M, mP T, fP b o] 160) = h1 at *; generalize h.size = N at *
  try simp +decide only [nilC, bsx, Nat.reduceAdd, Int.reduceLE, Int.reduceLT, Int.reduceToNat, rsx, g_s, g_s_ne, RunS.al H1]
  refine callV_fn (loRow_call H1 fun h2 o2 => ?_)
  have H2 := RunS.old H1 o2
  obtain ⟨pb, sb, wb, Q, hQ, HR, re⟩ := runRows H2
  obtain ⟨c5, c6, c7⟩ := hQ h2 _ HR.drop.drop.drop
  have d5 : ∀ F : Value → Prop, ldH h2 ⟨T, 5, none⟩ F = F (.slice (some ⟨pb, 0, none⟩) x.t.pred.length x.t.pred.length) := fun F => by unfold ldH; rw [c5]
  have d6 : ∀ F : Value → Prop, ldH h2 ⟨T, 6, none⟩ F = F (.slice (some ⟨sb, 0, none⟩) x.t.succ.length x.t.succ.length) := fun F => by unfold ldH; rw [c6]
  have d7 : ∀ F : Value → Prop, ldH h2 ⟨T, 7, none⟩ F = F (.slice (some ⟨wb, 0, none⟩) x.t.word.length x.t.word.length) := fun F => by unfold ldH; rw [c7]
  try simp +decide only [nilC, bsx, Nat.reduceAdd, Int.reduceLE, Int.reduceLT, Int.reduceToNat, rsx, g_s, g_s_ne, RunS.al H2, d5, d6, d7]
  refine callV_fn (loNext_call H2 fun h3 o3 => ?_)
  have H3 := RunS.old H2 o3
  have HR3 := HR.old o3
  obtain ⟨c5, c6, c7⟩ := hQ h3 _ HR3.drop.drop.drop
  try simp +decide only [nilC, bsx, Nat.reduceAdd, Int.reduceLE, Int.reduceLT, Int.reduceToNat, rsx, g_s, g_s_ne, RunS.al H3, c5, c6, c7]
  refine ⟨r0, by omega, ?_⟩
  have hu : ∀ l : List Int, (uvs l).length = l.length := uvs_len
  have us : ∀ (l : List Int) (i : Nat) (v : Int), (uvs l).set i (.int .u64 v) = uvs (l.set i v) := fun l i v => by unfold uvs; rw [List.map_set]
  refine st_nat HR3 (by rw [hu]; omega) trivial fun h4 H4 => ?_
  refine ⟨r0, by omega, ?_⟩
  rw [rot3, us] at H4
  refine st_nat H4 (by rw [hu]; omega) trivial fun h5 H5 => ?_
  refine ⟨r0, by omega, ?_⟩
  rw [← rot3, us, star_left] at H5
  refine st_nat H5 (by rw [hu]; omega) trivial fun h6 H6 => ?_
  rw [star_left, us] at H6
  have H7 := re h6 _ _ _ (by simp) (by simp) (by simp) (mem_set_all TB.pr (B.g 3)) (mem_set_all TB.su (wptr_U _)) (mem_set_all TB.wo (B.g 4)) H6
  have ef : (x.setPl (x.t.pred.set (s64 (x.f.g 2)).toNat (x.f.g 3)) (x.t.succ.set (s64 (x.f.g 2)).toNat (wptr (x.f.g 4))) (x.t.word.set (s64 (x.f.g 2)).toNat (x.f.g 4))).f = x.f := rfl
  try simp +decide only [nilC, bsx, Nat.reduceAdd, Int.reduceLE, Int.reduceLT, Int.reduceToNat, rsx, g_s, g_s_ne, RunS.al H7, ef]
  refine ifB_dec (fun c => ?_) (fun c => ?_)
  · have c' : (s64 (x.f.g 2)).toNat = 0 := by omega
    rw [if_pos c'] at k
    exact callV_fn (popN H7 [x.f.g 5] rfl (one_U (B.g 5)) rfl fun h8 H8 => k h8 (RunS.drp H8))
  · have c' : ¬ (s64 (x.f.g 2)).toNat = 0 := by omega
    rw [if_neg c'] at k
    exact RunS.stR (i := 2) H7 rfl (u64_U _) fun h8 H8 => RunS.stP H8 fun h9 H9 => k h9 (RunS.drp (RunS.none H9))
theorem loJudge_call (H : Sat h (RunS M T tv (some (b, o)) x R)) (O : Ok x) (k : ∀ h', Sat h' (RunS M T tv none (lJudge x) R) → K (.tuple #[]) h') :
    CallH Tryz.prog 190 #[rV M T b o] h K := by
  refine call190 ?_
  unfold F190 g190 cf bd lP nP
  have B := RunS.fB H
  unfold lJudge at k
  dsimp only at k
  have H1 := RunS.new H (.cells #[mP M, mP T, fP b o] 160); generalize h.push (.cells #[mP M, mP T, fP b o] 160) = h1 at *; generalize h.size = N at *
  try simp +decide only [nilC, bsx, Nat.reduceAdd, Int.reduceLE, Int.reduceLT, Int.reduceToNat, rsx, g_s, g_s_ne, RunS.al H1]
  refine callV_fn (rLoad H1 (by decide) O.st fun h2 H2 u2 => ?_)
  try simp +decide only [nilC, bsx, Nat.reduceAdd, Int.reduceLE, Int.reduceLT, Int.reduceToNat, rsx, g_s, g_s_ne, RunS.al H2]
  refine ifB_mk (fun c => ?_) (fun c => ?_)
  · rw [if_pos (bne_iff_ne.1 c)] at k
    exact RunS.stP H2 fun h3 H3 => k h3 (RunS.drp (RunS.none H3))
  rw [if_neg (fun hh => hh (bne_eq_false_iff_eq.1 c))] at k
  refine ⟨fun vs h' => (∃ w, vs = [.bool (decide (s64 (x.f.g 2) = 0 ∧ wmark (x.f.g 4) = true)), w]) ∧ Sat h' (RunS M T tv (some (b, o)) (x.load 1).2 (pt N (.cells #[mP M, mP T, fP b o] 160) * R)), ?_, ?_⟩
  · try simp +decide only [nilC, bsx, Nat.reduceAdd, Int.reduceLE, Int.reduceLT, Int.reduceToNat, rsx, g_s, g_s_ne, RunS.al H2]
    refine callV_fn (loRow_call H2 fun h3 o3 => ?_)
    have H3 := RunS.old H2 o3
    try simp +decide only [nilC, bsx, Nat.reduceAdd, Int.reduceLE, Int.reduceLT, Int.reduceToNat, rsx, g_s, g_s_ne, RunS.al H3]
    refine ifB_dec (fun c2 => ?_) (fun c2 => ?_)
    · try simp +decide only [nilC, bsx, Nat.reduceAdd, Int.reduceLE, Int.reduceLT, Int.reduceToNat, rsx, g_s, g_s_ne, RunS.al H3]
      refine callV_fn (loWord_call H3 fun h4 o4 => ?_)
      have H4 := RunS.old H3 o4
      try simp +decide only [nilC, bsx, Nat.reduceAdd, Int.reduceLE, Int.reduceLT, Int.reduceToNat, rsx, g_s, g_s_ne, RunS.al H4]
      refine callV_fn (wMark_call (B.g 4) ?_)
      try simp only [nilC, bsx, Nat.reduceAdd, Int.reduceLE, Int.reduceLT, Int.reduceToNat]
      rw [show decide (s64 (x.f.g 2) = 0 ∧ wmark (x.f.g 4) = true) = wmark (x.f.g 4) by simp [c2]]
      exact ⟨⟨_, rfl⟩, H4⟩
    · rw [decide_eq_false (p := s64 (x.f.g 2) = 0 ∧ wmark (x.f.g 4) = true) (fun hh => c2 hh.1)]
      exact ⟨⟨_, rfl⟩, H3⟩
  rintro v28 v29 g30 h31 ⟨⟨w, e⟩, H3⟩
  cases e
  try simp +decide only [nilC, bsx, Nat.reduceAdd, Int.reduceLE, Int.reduceLT, Int.reduceToNat, rsx, g_s, g_s_ne, RunS.al H3]
  refine ifB_dec (fun c2 => ?_) (fun c2 => ?_)
  · rw [if_pos c2] at k
    refine callV_fn (loNext_call H3 fun h4 o4 => ?_)
    have H4 := RunS.old H3 o4
    try simp +decide only [nilC, bsx, Nat.reduceAdd, Int.reduceLE, Int.reduceLT, Int.reduceToNat, rsx, g_s, g_s_ne, RunS.al H4]
    refine RunS.stR (i := 5) H4 rfl (wptr_U _) fun h5 H5 => ?_
    try simp +decide only [nilC, bsx, Nat.reduceAdd, Int.reduceLE, Int.reduceLT, Int.reduceToNat, rsx, g_s, g_s_ne, RunS.al H5]
    exact callV_fn (loPass_call H5 fun h6 H6 => k h6 (RunS.drp H6))
  rw [if_neg c2] at k
  refine callV_fn (loRow_call H3 fun h4 o4 => ?_)
  have H4 := RunS.old H3 o4
  try simp +decide only [nilC, bsx, Nat.reduceAdd, Int.reduceLE, Int.reduceLT, Int.reduceToNat, rsx, g_s, g_s_ne, RunS.al H4]
  refine ifB_dec (fun c3 => ?_) (fun c3 => ?_)
  · rw [if_pos c3] at k
    exact RunS.stP H4 fun h5 H5 => k h5 (RunS.drp (RunS.none H5))
  · rw [if_neg c3] at k
    exact RunS.stP H4 fun h5 H5 => k h5 (RunS.drp (RunS.none H5))
theorem loStep_call (H : Sat h (RunS M T tv (some (b, o)) x R)) (O : Ok x) (hr : x.f.pc ≠ 0 → RowOk x (x.f.g 2)) (k : ∀ h', Sat h' (RunS M T tv none (lStep x) R) → K (.tuple #[]) h') :
    CallH Tryz.prog 104 #[rV M T b o] h K := by
  refine call104 ?_
  unfold F104 g104 cf ce bd lP lI nP
  have B := RunS.fB H
  have P := RunS.pl H
  unfold lStep at k
  dsimp only at k
  have H1 := RunS.new H (.cells #[mP M, mP T, fP b o] 160); generalize h.push (.cells #[mP M, mP T, fP b o] 160) = h1 at *; generalize h.size = N at *
  try simp +decide only [nilC, bsx, Nat.reduceAdd, Int.reduceLE, Int.reduceLT, Int.reduceToNat, rsx, g_s, g_s_ne, RunS.al H1]
  refine ifB_dec (fun c => ?_) (fun c => ?_)
  · rw [if_pos c] at k
    have em : (x.load 1).2.m.p = x.m.p := load_p x 1
    rw [em] at k
    exact callV_fn (loBegin_call H1 O fun h2 H2 => k h2 (RunS.drp H2))
  rw [if_neg c] at k
  have hr := hr c
  have hrr : 0 ≤ s64 (x.f.g 2) ∧ s64 (x.f.g 2) < 1000 := ⟨hr.r.1, by have := hr.r.2; have := hr.e3; omega⟩
  have hr6 : s64 (x.f.g 2) < 6 := by have := hr.r.2; have := hr.e3; omega
  refine ifB_dec (fun c => ?_) (fun c => ?_)
  · rw [if_pos c] at k
    refine callV_fn (loRow_call H1 fun h3 o3 => ?_)
    have H3 := RunS.old H1 o3
    try simp +decide only [nilC, bsx, Nat.reduceAdd, Int.reduceLE, Int.reduceLT, Int.reduceToNat, rsx, g_s, g_s_ne, RunS.al H3]
    rw [s64_sm (n := 2 * s64 (x.f.g 2)) (by omega) (by omega)]
    refine callV_fn (loSlot_call H3 O ⟨by omega, by omega⟩ fun h4 o4 => ?_)
    have H4 := RunS.old H3 o4
    try simp +decide only [nilC, bsx, Nat.reduceAdd, Int.reduceLE, Int.reduceLT, Int.reduceToNat, rsx, g_s, g_s_ne, RunS.al H4]
    refine callV_fn (rStore H4 (haz_iN P _ _) (B.g 3) O.st fun h5 H5 => ?_)
    exact RunS.stP H5 fun h7 H7 => k h7 (RunS.drp (RunS.none H7))
  rw [if_neg c] at k
  refine ifB_dec (fun c => ?_) (fun c => ?_)
  · rw [if_pos c] at k
    refine callV_fn (loRow_call H1 fun h3 o3 => ?_)
    have H3 := RunS.old H1 o3
    try simp +decide only [nilC, bsx, Nat.reduceAdd, Int.reduceLE, Int.reduceLT, Int.reduceToNat, rsx, g_s, g_s_ne, RunS.al H3]
    rw [s64_sm (n := 5 + s64 (x.f.g 2)) (by omega) (by omega)]
    refine callV_fn (loAt_call H3 ⟨by omega, by omega⟩ fun h4 o4 => ?_)
    have H4 := RunS.old H3 o4
    rw [show x.na (x.f.g 3) (5 + s64 (x.f.g 2)) = x.nlink (x.f.g 3) (x.f.g 2) from rfl]
    try simp +decide only [nilC, bsx, Nat.reduceAdd, Int.reduceLE, Int.reduceLT, Int.reduceToNat, rsx, g_s, g_s_ne, RunS.al H4]
    refine callV_fn (rLoad H4 (node_iN P _ _) O.st fun h5 H5 u5 => ?_)
    try simp +decide only [nilC, bsx, Nat.reduceAdd, Int.reduceLE, Int.reduceLT, Int.reduceToNat, rsx, g_s, g_s_ne, RunS.al H5]
    refine RunS.stR (i := 4) H5 rfl u5 fun h6 H6 => RunS.stP H6 fun h7 H7 => ?_
    try simp +decide only [nilC, bsx, Nat.reduceAdd, Int.reduceLE, Int.reduceLT, Int.reduceToNat, rsx, g_s, g_s_ne, RunS.al H7]
    refine callV_fn (loNext_call H7 fun h8 o8 => ?_)
    have H8 := RunS.old H7 o8
    try simp +decide only [nilC, bsx, Nat.reduceAdd, Int.reduceLE, Int.reduceLT, Int.reduceToNat, rsx, g_s, g_s_ne, RunS.al H8, B.len]
    refine ifB_dec (fun c2 => ?_) (fun c2 => ?_)
    · rw [if_pos c2] at k
      have hr7 : RowOk (((x.load (x.nlink (x.f.g 3) (x.f.g 2))).2.s 4 (x.load (x.nlink (x.f.g 3) (x.f.g 2))).1).pc 3) (((((x.load (x.nlink (x.f.g 3) (x.f.g 2))).2.s 4 (x.load (x.nlink (x.f.g 3) (x.f.g 2))).1).pc 3).f.g 2)) := by
        rw [f_pc, g_at, f_s, g_s_ne _ (by decide), f_load]
        exact hr.same ⟨rfl, rfl, rfl⟩
      exact callV_fn (loSettle_call H8 hr7 fun h9 H9 => k h9 (RunS.drp H9))
    · rw [if_neg c2] at k
      exact k h8 (RunS.drp (RunS.none H8))
  rw [if_neg c] at k
  refine ifB_dec (fun c => ?_) (fun c => ?_)
  · rw [if_pos c] at k
    refine callV_fn (loRow_call H1 fun h3 o3 => ?_)
    have H3 := RunS.old H1 o3
    try simp +decide only [nilC, bsx, Nat.reduceAdd, Int.reduceLE, Int.reduceLT, Int.reduceToNat, rsx, g_s, g_s_ne, RunS.al H3]
    rw [s64_sm (n := 2 * s64 (x.f.g 2)) (by omega) (by omega), s64_sm (n := 2 * s64 (x.f.g 2) + 1) (by omega) (by omega)]
    refine callV_fn (loSlot_call H3 O ⟨by omega, by omega⟩ fun h4 o4 => ?_)
    have H4 := RunS.old H3 o4
    try simp +decide only [nilC, bsx, Nat.reduceAdd, Int.reduceLE, Int.reduceLT, Int.reduceToNat, rsx, g_s, g_s_ne, RunS.al H4]
    refine callV_fn (loNext_call H4 fun h5 o5 => ?_)
    have H5 := RunS.old H4 o5
    try simp +decide only [nilC, bsx, Nat.reduceAdd, Int.reduceLE, Int.reduceLT, Int.reduceToNat, rsx, g_s, g_s_ne, RunS.al H5]
    refine callV_fn (rStore H5 (haz_iN P _ _) (wptr_U _) O.st fun h6 H6 => ?_)
    exact RunS.stP H6 fun h7 H7 => k h7 (RunS.drp (RunS.none H7))
  rw [if_neg c] at k
  refine ifB_dec (fun c => ?_) (fun c => ?_)
  · rw [if_pos c] at k
    exact callV_fn (loJudge_call H1 O fun h3 H3 => k h3 (RunS.drp H3))
  rw [if_neg c] at k
  refine ifB_dec (fun c => ?_) (fun c => ?_)
  · rw [if_pos c] at k
    rw [← na_wptr] at k
    refine RunS.stP H1 fun h2 H2 => ?_
    try simp +decide only [nilC, bsx, Nat.reduceAdd, Int.reduceLE, Int.reduceLT, Int.reduceToNat, rsx, g_s, g_s_ne, RunS.al H2]
    refine callV_fn (loNext_call H2 fun h3 o3 => ?_)
    have H3 := RunS.old H2 o3
    try simp +decide only [nilC, bsx, Nat.reduceAdd, Int.reduceLE, Int.reduceLT, Int.reduceToNat, rsx, g_s, g_s_ne, RunS.al H3]
    refine callV_fn (loAt_call H3 (by decide) fun h4 o4 => ?_)
    have H4 := RunS.old H3 o4
    rw [show (x.pc 6).na (wptr (x.f.g 4)) 5 = x.na (wptr (x.f.g 4)) 5 from rfl]
    try simp +decide only [nilC, bsx, Nat.reduceAdd, Int.reduceLE, Int.reduceLT, Int.reduceToNat, rsx, g_s, g_s_ne, RunS.al H4]
    refine callV_fn (rLoad H4 (node_iN P _ _) O.st fun h5 H5 u5 => ?_)
    try simp +decide only [nilC, bsx, Nat.reduceAdd, Int.reduceLE, Int.reduceLT, Int.reduceToNat, rsx, g_s, g_s_ne, RunS.al H5]
    refine callV_fn (wMark_call u5 ?_)
    try simp +decide only [nilC, bsx, Nat.reduceAdd, Int.reduceLE, Int.reduceLT, Int.reduceToNat, rsx, g_s, g_s_ne, RunS.al H5]
    refine ifB_mk (fun c2 => ?_) (fun c2 => ?_)
    · rw [if_pos c2] at k
      exact callV_fn (loPass_call H5 fun h6 H6 => k h6 (RunS.drp H6))
    · rw [if_neg (by rw [c2]; simp)] at k
      exact k h5 (RunS.drp (RunS.none H5))
  rw [if_neg c] at k
  rw [← na_wptr] at k
  refine callV_fn (loNext_call H1 fun h3 o3 => ?_)
  have H3 := RunS.old H1 o3
  try simp +decide only [nilC, bsx, Nat.reduceAdd, Int.reduceLE, Int.reduceLT, Int.reduceToNat, rsx, g_s, g_s_ne, RunS.al H3]
  refine callV_fn (loAt_call H3 (by decide) fun h4 o4 => ?_)
  have H4 := RunS.old H3 o4
  try simp +decide only [nilC, bsx, Nat.reduceAdd, Int.reduceLE, Int.reduceLT, Int.reduceToNat, rsx, g_s, g_s_ne, RunS.al H4]
  refine callV_fn (rLoad H4 (node_iN P _ _) O.st fun h5 H5 u5 => ?_)
  try simp +decide only [nilC, bsx, Nat.reduceAdd, Int.reduceLE, Int.reduceLT, Int.reduceToNat, rsx, g_s, g_s_ne, RunS.al H5]
  refine ifB_dec (fun c2 => ?_) (fun c2 => ?_)
  · rw [if_pos c2] at k
    exact callV_fn (loPass_call H5 fun h6 H6 => k h6 (RunS.drp H6))
  · rw [if_neg c2] at k
    exact callV_fn (loSettle_call H5 (hr.same ⟨rfl, rfl, rfl⟩) fun h6 H6 => k h6 (RunS.drp H6))
def LOk (x : Run) : Prop := x.f.fn = 30 → x.f.pc ≠ 0 → RowOk x (x.f.g 2)
theorem locateDo_call (H : Sat h (RunS M T tv fo x R)) (O : Ok x) (hf : LOk x) (k : ∀ h', Sat h' (RunS M T tv none (locateDo x) R) → K (.tuple #[]) h') :
    CallH Tryz.prog 55 #[mP M, mP T] h K := by
  refine call55 ?_
  unfold F55 cf lI nP
  unfold locateDo at k
  refine callV_fn (rTop H (fun e => ?_) fun b o hne _ H1 => ?_)
  · rw [if_pos e] at k
    try simp only [nilC, bsx, Nat.reduceAdd, Int.reduceLE, Int.reduceLT, Int.reduceToNat]
    refine ⟨fun vs h' => (∃ w, vs = [.bool true, w]) ∧ h' = h, ⟨⟨_, rfl⟩, rfl⟩, ?_⟩
    rintro v4 v5 g6 h7 ⟨⟨w, e⟩, rfl⟩
    cases e
    try simp only [nilC, bsx, Nat.reduceAdd, Int.reduceLE, Int.reduceLT, Int.reduceToNat]
    exact k _ (RunS.none H)
  · rw [if_neg hne] at k
    try simp only [nilC, bsx, Nat.reduceAdd, Int.reduceLE, Int.reduceLT, Int.reduceToNat]
    refine ⟨fun vs h' => (∃ w, vs = [.bool false, w]) ∧ h' = h, ⟨⟨_, rfl⟩, rfl⟩, ?_⟩
    rintro v4 v5 g6 h7 ⟨⟨w, e⟩, rfl⟩
    cases e
    try simp +decide only [nilC, bsx, Nat.reduceAdd, Int.reduceLE, Int.reduceLT, Int.reduceToNat, rsx, g_s, g_s_ne, RunS.r H1]
    refine ifB_dec (fun c => ?_) (fun c => ?_)
    · rw [if_pos c] at k
      exact callV_fn (loStep_call H1 O (hf c) k)
    rw [if_neg c] at k
    exact callV_fn (hazardDo_call H1 O k)
end
end
section
open Mod
theorem and1 {n : Int} (h : U n) : Mod.u64 ((((BitVec.ofInt 64 n) &&& (BitVec.ofInt 64 1)).toNat : Nat) : Int) = n % 2 := by
  obtain ⟨h0, h1⟩ := h
  have e : (BitVec.ofInt 64 n).toNat = n.toNat := by
    rw [BitVec.toNat_ofInt]
    omega
  rw [BitVec.toNat_and, e, show (BitVec.ofInt 64 1).toNat = 1 from rfl, Nat.and_one_is_mod]
  unfold Mod.u64
  omega
section
variable {K : Value → Heap → Prop} {h : Heap} {M T b o N : Nat} {tv : Value} {fo : Option (Nat × Nat)} {x : Run} {R : Hp}
theorem lnCall_call (H : Sat h (RunS M T tv (some (b, o)) x R)) {pc fn : Int} {a : Option Addr} {l c : Nat} {rs : List Int} (A : Args R a l c rs) (hl : l ≤ 10) (hd : x.t.fr.length < 1073741823)
    (k : ∀ h' b' o', ¬ (b' = b ∧ o' = o) → Stale h' (some (b, o)) (x.pc pc).f → Sat h' (RunS M T tv (some (b', o')) (x.call pc fn rs) R) → K (.tuple #[]) h') :
    CallH Tryz.prog 114 #[rV M T b o, .int .i64 pc, .int .i64 fn, .slice a l c] h K := by
  refine call114 ?_
  unfold F114 g114 cf lP nP
  have H1 := RunS.new H (.cells #[mP M, mP T, fP b o] 118); generalize h.push (.cells #[mP M, mP T, fP b o] 118) = h1 at *; generalize h.size = N at *
  try simp only [nilC, bsx, Nat.reduceAdd, Int.reduceLE, Int.reduceLT, Int.reduceToNat, RunS.l H1]
  refine RunS.stP H1 fun h2 H2 => ?_
  try simp only [nilC, bsx, Nat.reduceAdd, Int.reduceLE, Int.reduceLT, Int.reduceToNat, RunS.l H2]
  refine callV_fn (rPush H2 A.skip hl (by show (x.t.fr.dropLast ++ [_]).length < _; simp; omega) fun h3 b' o' h1 h2 H3 => k h3 b' o' (fun e => h1 b o rfl e) h2 (RunS.drp H3))
theorem lnCallN (H : Sat h (RunS M T tv (some (b, o)) x R)) {pc fn : Int} {l : Nat} (rs : List Int) {ty : TypeId} (hr : rs.length = l) (hu : ∀ v ∈ rs, U v) (hl : Nat.ble l 10 = true) (hd : x.t.fr.length < 1073741823)
    (k : ∀ h' b' o', ¬ (b' = b ∧ o' = o) → Stale h' (some (b, o)) (x.pc pc).f → Sat h' (RunS M T tv (some (b', o')) (x.call pc fn rs) R) → K (.tuple #[]) h') :
    CallH Tryz.prog 114 #[rV M T b o, .int .i64 pc, .int .i64 fn, .slice (some ⟨h.size, 0, none⟩) l l] (h.push (.cells (uvs rs).toArray ty)) K :=
  lnCall_call (RunS.new H (.cells (uvs rs).toArray ty)) (Args.mk' hr hu) (Nat.le_of_ble_eq_true hl) hd fun h' b' o' h1 h2 H' => k h' b' o' h1 h2 (RunS.drp H')
theorem lnAt_call (H : Sat h (RunS M T tv fo x R)) {n f : Int} (hf : iN f) (k : ∀ h', Old h.size h h' → K (.int .i64 (x.na n f)) h') :
    CallH Tryz.prog 192 #[rV M T b o, .int .u64 n, .int .i64 f] h K := by
  refine call192 ?_
  unfold F192 g192 cf lP
  have oo : Old h.size h (h.push (.cells #[mP M, mP T, fP b o] 118)) := (Old.refl _ _).push _ (Nat.le_refl _)
  have s1 := oo.1
  have H1 := RunS.new H (.cells #[mP M, mP T, fP b o] 118); generalize h.push (.cells #[mP M, mP T, fP b o] 118) = h1 at *; generalize h.size = N at *
  try simp only [nilC, bsx, Nat.reduceAdd, Int.reduceLE, Int.reduceLT, Int.reduceToNat, RunS.l H1]
  refine callV_fn (rPlanO H1 fun h2 o2 => pl15 ?_)
  refine callV_fn (plNode_call (RunS.pl H) (s64_iN _) hf fun h3 o3 => ?_)
  try simp only [nilC, bsx, Nat.reduceAdd, Int.reduceLE, Int.reduceLT, Int.reduceToNat]
  exact k h3 (oo.trans ((o2.trans (o3.mono o2.1)).mono s1))
theorem lnLink_call (H : Sat h (RunS M T tv fo x R)) {n r : Int} (k : ∀ h', Old h.size h h' → K (.int .i64 (x.nlink n r)) h') :
    CallH Tryz.prog 110 #[rV M T b o, .int .u64 n, .int .u64 r] h K := by
  refine call110 ?_
  unfold F110 g110 cf
  have oo : Old h.size h (h.push (.cells #[mP M, mP T, fP b o] 118)) := (Old.refl _ _).push _ (Nat.le_refl _)
  have s1 := oo.1
  have H1 := RunS.new H (.cells #[mP M, mP T, fP b o] 118); generalize h.push (.cells #[mP M, mP T, fP b o] 118) = h1 at *; generalize h.size = N at *
  try simp only [nilC, bsx, Nat.reduceAdd, Int.reduceLE, Int.reduceLT, Int.reduceToNat, RunS.l H1]
  refine callV_fn (lnAt_call H1 (s64_iN _) fun h2 o2 => ?_)
  try simp only [nilC, bsx, Nat.reduceAdd, Int.reduceLE, Int.reduceLT, Int.reduceToNat]
  have e : x.na n (s64 (5 + s64 r)) = x.nlink n r := plNode_s (RunS.pl H) (s64_iN _)
  rw [e]
  exact k h2 (oo.trans (o2.mono s1))
theorem lnSwing_call (H : Sat h (RunS M T tv fo x R)) {a w t : Int} {mk : Bool} (ha : iN a) (hw : U w) (hs : x.m.mm.st < 1099511627776) (k : ∀ h', Sat h' (RunS M T tv fo (x.swingM a w t mk).2 R) → K (.bool (x.swingM a w t mk).1) h') :
    CallH Tryz.prog 115 #[rV M T b o, .int .i64 a, .int .u64 w, .int .u64 t, .bool mk] h K := by
  refine call115 ?_
  unfold F115 g115 cf ce
  have H1 := RunS.new H (.cells #[mP M, mP T, fP b o] 118); generalize h.push (.cells #[mP M, mP T, fP b o] 118) = h1 at *; generalize h.size = N at *
  try simp only [nilC, bsx, Nat.reduceAdd, Int.reduceLE, Int.reduceLT, Int.reduceToNat, RunS.l H1]
  refine callV_fn (wNext_call hw ?_)
  try simp only [nilC, bsx, Nat.reduceAdd, Int.reduceLE, Int.reduceLT, Int.reduceToNat, RunS.l H1]
  refine callV_fn (rCas H1 ha wNext_U hs fun h3 H3 => ?_)
  try simp only [nilC, bsx, Nat.reduceAdd, Int.reduceLE, Int.reduceLT, Int.reduceToNat]
  exact k h3 (RunS.drp H3)
theorem lnEnd_call (H : Sat h (RunS M T tv (some (b, o)) x R)) {k7 k8 k9 : Int} (h7 : U k7) (h8 : U k8) (h9 : U k9) (hd : x.t.fr.length < 1073741823)
    (k : ∀ h' b' o', Sat h' (RunS M T tv (some (b', o')) (x.fin k7 k8 k9) R) → K (.tuple #[]) h') :
    CallH Tryz.prog 193 #[rV M T b o, .int .u64 k7, .int .u64 k8, .int .u64 k9] h K := by
  refine call193 ?_
  unfold F193 g193 cf ce bd lP nP
  have H1 := RunS.new H (.cells #[mP M, mP T, fP b o] 118); generalize h.push (.cells #[mP M, mP T, fP b o] 118) = h1 at *; generalize h.size = N at *
  try simp only [nilC, bsx, Nat.reduceAdd, Int.reduceLE, Int.reduceLT, Int.reduceToNat, RunS.l H1]
  refine RunS.stR (i := 7) H1 rfl h7 fun h2 H2 => ?_
  try simp only [nilC, bsx, Nat.reduceAdd, Int.reduceLE, Int.reduceLT, Int.reduceToNat, RunS.l H2]
  refine RunS.stR (i := 8) H2 rfl h8 fun h3 H3 => ?_
  try simp only [nilC, bsx, Nat.reduceAdd, Int.reduceLE, Int.reduceLT, Int.reduceToNat, RunS.l H3]
  refine RunS.stR (i := 9) H3 rfl h9 fun h4 H4 => ?_
  try simp only [nilC, bsx, Nat.reduceAdd, Int.reduceLE, Int.reduceLT, Int.reduceToNat, RunS.l H4]
  refine callV_fn (lnCall_call H4 Args.none (by omega) ?_ fun h5 b' o' h1 h2 H5 => k h5 b' o' (RunS.drp H5))
  have e := List.length_pos_iff.2 (thrS_ne (RunS.thr H))
  show ((((x.t.fr.dropLast ++ [_]).dropLast ++ [_]).dropLast) ++ [_]).length < _
  simp
  omega
theorem lnDone_call (H : Sat h (RunS M T tv (some (b, o)) x R)) {kd : Int} (h7 : U kd) (hd : x.t.fr.length < 1073741823)
    (k : ∀ h' b' o', Sat h' (RunS M T tv (some (b', o')) (x.fin kd 0 0) R) → K (.tuple #[]) h') :
    CallH Tryz.prog 113 #[rV M T b o, .int .u64 kd] h K := by
  refine call113 ?_
  unfold F113 g113 cf
  have H1 := RunS.new H (.cells #[mP M, mP T, fP b o] 118); generalize h.push (.cells #[mP M, mP T, fP b o] 118) = h1 at *; generalize h.size = N at *
  try simp only [nilC, bsx, Nat.reduceAdd, Int.reduceLE, Int.reduceLT, Int.reduceToNat, RunS.l H1]
  exact callV_fn (lnEnd_call H1 h7 U0 U0 hd fun h5 b' o' H5 => k h5 b' o' (RunS.drp H5))
theorem lnGuard_call (H : Sat h (RunS M T tv fo x R)) (O : Ok x) {sl n : Int} (hs : U sl) (hn : U n) (k : ∀ h', Sat h' (RunS M T tv fo (x.guard sl n) R) → K (.tuple #[]) h') :
    CallH Tryz.prog 119 #[rV M T b o, .int .u64 sl, .int .u64 n] h K := by
  refine call119 ?_
  unfold F119 g119 cf ce lP nP
  have P := RunS.pl H
  have P1 := P.sl
  have H1 := RunS.new H (.cells #[mP M, mP T, fP b o] 118); generalize h.push (.cells #[mP M, mP T, fP b o] 118) = h1 at *; generalize h.size = N at *
  try simp only [nilC, bsx, Nat.reduceAdd, Int.reduceLE, Int.reduceLT, Int.reduceToNat, RunS.l H1]
  refine callV_fn (rPlanO H1 fun h2 o2 => pl15 ?_)
  have H2 := RunS.old H1 o2
  have H3 := RunS.new H2 (.cells #[.int .i64 0, .int .i64 0, .int .i64 0, .int .i64 0, .int .i64 0, .int .i64 0, .int .i64 0, .int .i64 0, .int .i64 0, .int .i64 0, .int .i64 0, .int .i64 0, .int .i64 0, .int .i64 0, .int .i64 0] 69)
  generalize h2.push (.cells #[.int .i64 0, .int .i64 0, .int .i64 0, .int .i64 0, .int .i64 0, .int .i64 0, .int .i64 0, .int .i64 0, .int .i64 0, .int .i64 0, .int .i64 0, .int .i64 0, .int .i64 0, .int .i64 0, .int .i64 0] 69) = h3 at *
  generalize h2.size = N2 at *
  refine st15 (stN_full (vs := plc x.m.p) (RunS.loc H3) rfl (by simp [oneC]) fun h4 w => ?_)
  have H4 := RunS.wr H3 w.new w.old
  clear H3 w
  try simp only [nilC, bsx, Nat.reduceAdd, Int.reduceLE, Int.reduceLT, Int.reduceToNat, RunS.l2 H4]
  refine rd15 (RunS.loc H4) ?_
  try simp only [nilC, bsx, Nat.reduceAdd, Int.reduceLE, Int.reduceLT, Int.reduceToNat, RunS.l2 H4, RunS.tc H4]
  refine rd15 (RunS.loc H4) ?_
  refine callV_fn (plSlots_call fun h5 o5 => ?_)
  have H5 := RunS.old H4 o5
  try simp only [nilC, bsx, Nat.reduceAdd, Int.reduceLE, Int.reduceLT, Int.reduceToNat, RunS.l2 H5, RunS.tc H5]
  refine held15 (RunS.loc H5) ?_
  have es : s64 (s64 (x.m.p.slots - 1) - s64 (Mod.u64 ((((BitVec.ofInt 64 sl) &&& (BitVec.ofInt 64 1)).toNat : Nat) : Int))) = x.m.p.slots - 1 - sl % 2 := by
    rw [and1 hs]
    unfold s64
    omega
  try rw [es]
  refine callV_fn (plHaz_call P O.id ⟨by omega, by omega⟩ fun h6 o6 => ?_)
  have H6 := RunS.old H5 o6
  try simp only [nilC, bsx, Nat.reduceAdd, Int.reduceLE, Int.reduceLT, Int.reduceToNat, RunS.l2 H6]
  exact callV_fn (rStore H6 (haz_iN P _ _) hn O.st fun h7 H7 => k h7 (RunS.drp (RunS.drp H7)))
theorem lnPtr_call {w : Int} (hw : U w) (k : K (.int .u64 (wptr w)) h) : CallH Tryz.prog 111 #[.int .u64 w] h K := by
  refine call111 ?_
  unfold F111 cf
  refine callV_fn (wPtr_call hw ?_)
  try simp only [nilC, bsx, Nat.reduceAdd, Int.reduceLE, Int.reduceLT, Int.reduceToNat]
  exact k
theorem lnMark_call {w : Int} (hw : U w) (k : K (.bool (wmark w)) h) : CallH Tryz.prog 112 #[.int .u64 w] h K := by
  refine call112 ?_
  unfold F112 cf
  refine callV_fn (wMark_call hw ?_)
  try simp only [nilC, bsx, Nat.reduceAdd, Int.reduceLE, Int.reduceLT, Int.reduceToNat]
  exact k
end
end
section
open Mod
section
variable {K : Value → Heap → Prop} {h : Heap} {M T b o N : Nat} {tv : Value} {fo : Option (Nat × Nat)} {x : Run} {R : Hp}
theorem three_U {u v w : Int} (h1 : U u) (h2 : U v) (h3 : U w) : ∀ y ∈ [u, v, w], U y := by
  intro y hy
  simp only [List.mem_cons, List.not_mem_nil, or_false] at hy
  rcases hy with rfl | rfl | rfl
  · exact h1
  · exact h2
  · exact h3
end
end
section
open Mod
section
variable {K : Value → Heap → Prop} {h : Heap} {M T b o N : Nat} {tv : Value} {fo : Option (Nat × Nat)} {x : Run} {R : Hp}
theorem pc_pc (x : Run) (i j : Int) : (x.pc i).pc j = x.pc j := by
  show (x.pc i).setF ((x.pc i).f.at j) = x.setF (x.f.at j)
  rw [f_pc]
  unfold Run.pc Run.setF Thr.setTop
  simp [Frm.at]
end
end
section
open Mod
section
variable {K : Value → Heap → Prop} {h : Heap} {M T b o N : Nat} {tv : Value} {fo : Option (Nat × Nat)} {x : Run} {R : Hp}
theorem nlink_pc (x : Run) (i n r : Int) : (x.pc i).nlink n r = x.nlink n r := rfl
theorem liTake_call (H : Sat h (RunS M T tv (some (b, o)) x R)) (O : Ok x) (k : ∀ h', Sat h' (RunS M T tv none (liTake x) R) → K (.tuple #[]) h') :
    CallH Tryz.prog 105 #[rV M T b o] h K := by
  refine call105 ?_
  unfold F105 g105 cf ce bd lP lI nP
  have B := RunS.fB H
  have P := RunS.pl H
  have hd := O.fr
  have r0 := RunS.ret H 0
  unfold liTake at k
  dsimp only at k
  have H1 := RunS.new H (.cells #[mP M, mP T, fP b o] 120); generalize h.push (.cells #[mP M, mP T, fP b o] 120) = h1 at *; generalize h.size = N at *
  try simp +decide only [nilC, bsx, Nat.reduceAdd, Int.reduceLE, Int.reduceLT, Int.reduceToNat, rsx, g_s, g_s_ne, RunS.al H1]
  refine ifB_dec (fun c => ?_) (fun c => ?_)
  · rw [if_pos c] at k
    exact callV_fn (lnCall_call H1 Args.none (by omega) (by omega) fun h2 b' o' _ _ H2 => k h2 (RunS.drp (RunS.none H2)))
  rw [if_neg c] at k
  refine ifB_dec (fun c => ?_) (fun c => ?_)
  · rw [if_pos c] at k
    refine RunS.stR (i := 2) H1 rfl r0 fun h2 H2 => ?_
    try simp +decide only [nilC, bsx, Nat.reduceAdd, Int.reduceLE, Int.reduceLT, Int.reduceToNat, rsx, g_s, g_s_ne, RunS.al H2, B.len]
    refine ifB_mk (fun c2 => ?_) (fun c2 => ?_)
    · have c2' : x.ret 0 ≠ 0 := by simpa [Run.ret] using c2
      rw [if_pos c2'] at k
      exact RunS.stP H2 fun h3 H3 => k h3 (RunS.drp (RunS.none H3))
    · have c2' : ¬ x.ret 0 ≠ 0 := by simpa [Run.ret] using c2
      rw [if_neg c2'] at k
      have hfl := frl_s x 2 (x.ret 0)
      refine ⟨fun vs h' => (∃ w, vs = [.bool (decide (x.f.g 5 = 0 ∧ x.t.retired.length > 0)), w]) ∧ Sat h' (RunS M T tv (some (b, o)) (x.s 2 (x.ret 0)) (pt N (.cells #[mP M, mP T, fP b o] 120) * R)), ?_, ?_⟩
      · refine ifB_dec (fun c3 => ?_) (fun c3 => ?_)
        · refine callV_fn (pileLen_call (RunS.thr H2) ?_)
          try simp only [nilC, bsx, Nat.reduceAdd, Int.reduceLE, Int.reduceLT, Int.reduceToNat]
          have e : decide (((x.s 2 (x.ret 0)).t.retired.length : Int) > 0) = decide (x.f.g 5 = 0 ∧ x.t.retired.length > 0) := by
            rw [decide_eq_decide]
            have e2 : (x.s 2 (x.ret 0)).t.retired = x.t.retired := rfl
            rw [e2]
            omega
          rw [e]
          exact ⟨⟨_, rfl⟩, H2⟩
        · exact ⟨⟨_, by rw [decide_eq_false (fun hh => c3 hh.1)]⟩, H2⟩
      rintro v32 v33 g34 h35 ⟨⟨w, e⟩, H3⟩
      cases e
      try simp only [nilC, bsx, Nat.reduceAdd, Int.reduceLE, Int.reduceLT, Int.reduceToNat]
      refine ifB_dec (fun c3 => ?_) (fun c3 => ?_)
      · rw [if_pos c3] at k
        refine RunS.stR (i := 5) H3 rfl (U.lit rfl) fun h4 H4 => ?_
        have hfl2 := frl_s (x.s 2 (x.ret 0)) 5 1
        try simp only [nilC, bsx, Nat.reduceAdd, Int.reduceLE, Int.reduceLT, Int.reduceToNat, RunS.l H4]
        exact callV_fn (lnCall_call H4 Args.none (by omega) (by omega) fun h5 b' o' _ _ H5 => k h5 (RunS.drp (RunS.none H5)))
      · rw [if_neg c3] at k
        try simp only [nilC, bsx, Nat.reduceAdd, Int.reduceLE, Int.reduceLT, Int.reduceToNat, RunS.l H3]
        exact callV_fn (lnDone_call H3 (U.lit rfl) (by omega) fun h5 b' o' H5 => k h5 (RunS.drp (RunS.none H5)))
  rw [if_neg c] at k
  refine ifB_dec (fun c => ?_) (fun c => ?_)
  · rw [if_pos c] at k
    refine callV_fn (rAdd H1 (by decide) O.st fun h2 H2 u2 => ?_)
    try simp +decide only [nilC, bsx, Nat.reduceAdd, Int.reduceLE, Int.reduceLT, Int.reduceToNat, rsx, g_s, g_s_ne, RunS.al H2, wrap32_eq]
    refine callV_fn (oMake_call (u32_V _) (u32_V _) ?_)
    try simp +decide only [nilC, bsx, Nat.reduceAdd, Int.reduceLE, Int.reduceLT, Int.reduceToNat, rsx, g_s, g_s_ne, RunS.al H2]
    refine RunS.stR (i := 4) H2 rfl (ordMake_U _ _) fun h3 H3 => ?_
    try simp +decide only [nilC, bsx, Nat.reduceAdd, Int.reduceLE, Int.reduceLT, Int.reduceToNat, rsx, g_s, g_s_ne, RunS.al H3]
    refine callV_fn (RunS.feed H3 fun q R' HF re => ?_)
    try simp +decide only [nilC, bsx, Nat.reduceAdd, Int.reduceLE, Int.reduceLT, Int.reduceToNat, rsx, g_s, g_s_ne, RunS.al H3]
    refine callV_fn (rPlanO H3 fun h4 o4 => pl15 ?_)
    have H4 := RunS.old H3 o4
    have HF4 := HF.old o4
    try simp only [nilC, bsx, Nat.reduceAdd, Int.reduceLE, Int.reduceLT, Int.reduceToNat]
    refine callV_fn (plConf_call fun h5 o5 => cf7 ?_)
    have H5 := RunS.old H4 o5
    have HF5 := HF4.old o5
    try simp only [nilC, bsx, Nat.reduceAdd, Int.reduceLE, Int.reduceLT, Int.reduceToNat]
    have P5 := RunS.pl H5
    refine callV_fn (rLevel H5 ?_ HF5 re P5.lv fun h6 H6 => ?_)
    · show (x.add 3 1).2.m.used < _
      rw [used_add]; exact O.us
    try simp only [nilC, bsx, Nat.reduceAdd, Int.reduceLE, Int.reduceLT, Int.reduceToNat]
    refine RunS.stR (i := 3) H6 rfl (u64_U _) fun h7 H7 => RunS.stP H7 fun h8 H8 => k h8 (RunS.drp (RunS.none H8))
  rw [if_neg c] at k
  exact k h1 (RunS.drp (RunS.none H1))
def liLaid (x : Run) : Run := if x.f.pc = 3 then x.store (x.na (x.f.g 2) 0) (x.f.g 4) else if x.f.pc = 4 then x.store (x.na (x.f.g 2) 1) (x.f.g 1)
    else if x.f.pc = 5 then x.store (x.na (x.f.g 2) 2) 1 else if x.f.pc = 6 then x.store (x.na (x.f.g 2) 3) (x.f.g 3) else x
theorem liLaid_f (x : Run) : (liLaid x).f = x.f := by
  unfold liLaid
  split
  · rfl
  split
  · rfl
  split
  · rfl
  split <;> rfl
theorem liLay_call (H : Sat h (RunS M T tv (some (b, o)) x R)) (O : Ok x) (k : ∀ h', Sat h' (RunS M T tv none (liLay x) R) → K (.tuple #[]) h') :
    CallH Tryz.prog 106 #[rV M T b o] h K := by
  refine call106 ?_
  unfold F106 g106 cf ce bd lP lI nP
  have B := RunS.fB H
  have P := RunS.pl H
  have k : ∀ h', Sat h' (RunS M T tv none ((liLaid x).pc (x.f.pc + 1)) R) → K (.tuple #[]) h' := k
  have H1 := RunS.new H (.cells #[mP M, mP T, fP b o] 120); generalize h.push (.cells #[mP M, mP T, fP b o] 120) = h1 at *; generalize h.size = N at *
  try simp +decide only [nilC, bsx, Nat.reduceAdd, Int.reduceLE, Int.reduceLT, Int.reduceToNat, rsx, g_s, g_s_ne, RunS.al H1]
  refine ⟨fun _ h' => Sat h' (RunS M T tv (some (b, o)) (liLaid x) (pt N (.cells #[mP M, mP T, fP b o] 120) * R)), ?_, ?_⟩
  · unfold liLaid
    refine ifB_dec (fun c => ?_) (fun c => ?_)
    · rw [if_pos c]
      refine callV_fn (lnAt_call H1 (by decide) fun h2 o2 => ?_)
      have H2 := RunS.old H1 o2
      try simp +decide only [nilC, bsx, Nat.reduceAdd, Int.reduceLE, Int.reduceLT, Int.reduceToNat, rsx, g_s, g_s_ne, RunS.al H2]
      exact callV_fn (rStore H2 (node_iN P _ _) (B.g 4) O.st fun h3 H3 => H3)
    rw [if_neg c]
    refine ifB_dec (fun c => ?_) (fun c => ?_)
    · rw [if_pos c]
      refine callV_fn (lnAt_call H1 (by decide) fun h2 o2 => ?_)
      have H2 := RunS.old H1 o2
      try simp +decide only [nilC, bsx, Nat.reduceAdd, Int.reduceLE, Int.reduceLT, Int.reduceToNat, rsx, g_s, g_s_ne, RunS.al H2]
      exact callV_fn (rStore H2 (node_iN P _ _) (B.g 1) O.st fun h3 H3 => H3)
    rw [if_neg c]
    refine ifB_dec (fun c => ?_) (fun c => ?_)
    · rw [if_pos c]
      refine callV_fn (lnAt_call H1 (by decide) fun h2 o2 => ?_)
      have H2 := RunS.old H1 o2
      try simp +decide only [nilC, bsx, Nat.reduceAdd, Int.reduceLE, Int.reduceLT, Int.reduceToNat, rsx, g_s, g_s_ne, RunS.al H2]
      exact callV_fn (rStore H2 (node_iN P _ _) (U.lit rfl) O.st fun h3 H3 => H3)
    rw [if_neg c]
    refine ifB_dec (fun c => ?_) (fun c => ?_)
    · rw [if_pos c]
      refine callV_fn (lnAt_call H1 (by decide) fun h2 o2 => ?_)
      have H2 := RunS.old H1 o2
      try simp +decide only [nilC, bsx, Nat.reduceAdd, Int.reduceLE, Int.reduceLT, Int.reduceToNat, rsx, g_s, g_s_ne, RunS.al H2]
      exact callV_fn (rStore H2 (node_iN P _ _) (B.g 3) O.st fun h3 H3 => H3)
    rw [if_neg c]
    exact H1
  intro v1 v2 v3 v4 g6 h7 H7
  try simp +decide only [nilC, bsx, Nat.reduceAdd, Int.reduceLE, Int.reduceLT, Int.reduceToNat, rsx, g_s, g_s_ne, RunS.al H7, liLaid_f]
  rw [s64_sm (n := x.f.pc + 1) (by have := O.pc; omega) (by have := O.pc; omega)]
  exact RunS.stP H7 fun h8 H8 => k h8 (RunS.drp (RunS.none H8))
theorem liEnter_call (H : Sat h (RunS M T tv (some (b, o)) x R)) (O : Ok x) (L : RL x) (k : ∀ h', Sat h' (RunS M T tv none (liEnter x) R) → K (.tuple #[]) h') :
    CallH Tryz.prog 107 #[rV M T b o] h K := by
  refine call107 ?_
  unfold F107 g107 cf ce bd lS lP lI nP
  have B := RunS.fB H
  have P := RunS.pl H
  have hd := O.fr
  have r0 := RunS.ret H 0
  unfold liEnter at k
  dsimp only at k
  have H1 := RunS.new H (.cells #[mP M, mP T, fP b o] 120); generalize h.push (.cells #[mP M, mP T, fP b o] 120) = h1 at *; generalize h.size = N at *
  try simp +decide only [nilC, bsx, Nat.reduceAdd, Int.reduceLE, Int.reduceLT, Int.reduceToNat, rsx, g_s, g_s_ne, RunS.al H1]
  refine ifB_dec (fun c => ?_) (fun c => ?_)
  · rw [if_pos c] at k
    exact callV_fn (lnCallN H1 [x.f.g 4] rfl (one_U (B.g 4)) rfl (by omega) fun h4 b' o' _ _ H4 => k h4 (RunS.drp (RunS.none H4)))
  rw [if_neg c] at k
  refine ifB_dec (fun c => ?_) (fun c => ?_)
  · rw [if_pos c] at k
    refine RunS.stR (i := 7) H1 rfl r0 fun h2 H2 => ?_
    try simp +decide only [nilC, bsx, Nat.reduceAdd, Int.reduceLE, Int.reduceLT, Int.reduceToNat, rsx, g_s, g_s_ne, RunS.al H2]
    refine callV_fn (lnLink_call H2 fun h3 o3 => ?_)
    have H3 := RunS.old H2 o3
    try simp +decide only [nilC, bsx, Nat.reduceAdd, Int.reduceLE, Int.reduceLT, Int.reduceToNat, rsx, g_s, g_s_ne, RunS.al H3]
    refine callV_fn (rLoad H3 (node_iN P _ _) O.st fun h4 H4 u4 => ?_)
    try simp +decide only [nilC, bsx, Nat.reduceAdd, Int.reduceLE, Int.reduceLT, Int.reduceToNat, rsx, g_s, g_s_ne, RunS.al H4]
    exact RunS.stR (i := 6) H4 rfl u4 fun h5 H5 => RunS.stP H5 fun h6 H6 => k h6 (RunS.drp (RunS.none H6))
  rw [if_neg c] at k
  refine ifB_dec (fun c => ?_) (fun c => ?_)
  · rw [if_pos c] at k
    obtain ⟨pb, sb, wb, W⟩ := RunS.rows H1 L
    have wf := W.f
    have l0 := L.e0
    have wg := W.g (i := 0) (by omega)
    try simp +decide only [nilC, bsx, Nat.reduceAdd, Int.reduceLE, Int.reduceLT, Int.reduceToNat, rsx, g_s, g_s_ne, RunS.al H1, wf, wg]
    refine ⟨by omega, ?_⟩
    try simp +decide only [nilC, bsx, Nat.reduceAdd, Int.reduceLE, Int.reduceLT, Int.reduceToNat, rsx, g_s, g_s_ne, RunS.al H1, wf, wg]
    refine callV_fn (lnLink_call H1 fun h2 o2 => ?_)
    have H2 := RunS.old H1 o2
    have W2 := W.old o2
    have wf2 := W2.f
    have wg2 := W2.g (i := 0) (by omega)
    try simp +decide only [nilC, bsx, Nat.reduceAdd, Int.reduceLE, Int.reduceLT, Int.reduceToNat, rsx, g_s, g_s_ne, RunS.al H2, wf2, wg2]
    refine callV_fn (wNext_call (B.g 6) ?_)
    try simp +decide only [nilC, bsx, Nat.reduceAdd, Int.reduceLE, Int.reduceLT, Int.reduceToNat, rsx, g_s, g_s_ne, RunS.al H2]
    refine callV_fn (rStore H2 (node_iN P _ _) wNext_U O.st fun h3 H3 => ?_)
    exact RunS.stP H3 fun h5 H5 => k h5 (RunS.drp (RunS.none H5))
  rw [if_neg c] at k
  refine ifB_dec (fun c => ?_) (fun c => ?_)
  · rw [if_pos c] at k
    refine RunS.stR (i := 5) H1 rfl (U.lit rfl) fun h2 H2 => ?_
    try simp +decide only [nilC, bsx, Nat.reduceAdd, Int.reduceLE, Int.reduceLT, Int.reduceToNat, rsx, g_s, g_s_ne, RunS.al H2]
    refine RunS.stP H2 fun h3 H3 => ?_
    have L3 : RL ((x.s 5 1).pc 7) := L.at ⟨rfl, rfl, rfl⟩
    obtain ⟨pb, sb, wb, W⟩ := RunS.rows H3 L3
    have wf := W.f
    have l0 := L3.e0
    have wg := W.g (i := 0) (by omega)
    try simp +decide only [nilC, bsx, Nat.reduceAdd, Int.reduceLE, Int.reduceLT, Int.reduceToNat, rsx, g_s, g_s_ne, RunS.al H3, wf, wg]
    refine ⟨by omega, ?_⟩
    try simp +decide only [nilC, bsx, Nat.reduceAdd, Int.reduceLE, Int.reduceLT, Int.reduceToNat, rsx, g_s, g_s_ne, RunS.al H3, wf, wg]
    refine ⟨by omega, ?_⟩
    try simp +decide only [nilC, bsx, Nat.reduceAdd, Int.reduceLE, Int.reduceLT, Int.reduceToNat, rsx, g_s, g_s_ne, RunS.al H3, wf, wg]
    refine callV_fn (lnLink_call H3 fun h4 o4 => ?_)
    have H4 := RunS.old H3 o4
    have W4 := W.old o4
    have wf4 := W4.f
    have wg4 := W4.g (i := 0) (by omega)
    try simp +decide only [nilC, bsx, Nat.reduceAdd, Int.reduceLE, Int.reduceLT, Int.reduceToNat, rsx, g_s, g_s_ne, RunS.al H4, wf4, wg4]
    refine callV_fn (lnSwing_call H4 (node_iN P _ _) (RunS.woU H4 0) O.st fun h5 H5 => ?_)
    try simp +decide only [nilC, bsx, Nat.reduceAdd, Int.reduceLE, Int.reduceLT, Int.reduceToNat, rsx, g_s, g_s_ne, RunS.al H5]
    refine ifB_mk (fun c2 => ?_) (fun c2 => ?_)
    · rw [if_pos c2] at k
      exact RunS.stP H5 fun h6 H6 => k h6 (RunS.drp (RunS.none H6))
    · rw [if_neg (by rw [c2]; simp)] at k
      exact k h5 (RunS.drp (RunS.none H5))
  rw [if_neg c] at k
  exact k h1 (RunS.drp (RunS.none H1))
theorem liClimb_call (H : Sat h (RunS M T tv (some (b, o)) x R)) (O : Ok x) (L : RL x) (hr2 : 12 ≤ x.f.pc → x.f.g 5 < x.t.pred.length) (k : ∀ h', Sat h' (RunS M T tv none (liClimb x) R) → K (.tuple #[]) h') :
    CallH Tryz.prog 108 #[rV M T b o] h K := by
  refine call108 ?_
  unfold F108 g108 cf ce bd lS lP lI nP
  have B := RunS.fB H
  have P := RunS.pl H
  have hd := O.fr
  have hr0 := (B.g 5).1
  unfold liClimb at k
  dsimp only at k
  have H1 := RunS.new H (.cells #[mP M, mP T, fP b o] 120); generalize h.push (.cells #[mP M, mP T, fP b o] 120) = h1 at *; generalize h.size = N at *
  try simp +decide only [nilC, bsx, Nat.reduceAdd, Int.reduceLE, Int.reduceLT, Int.reduceToNat, rsx, g_s, g_s_ne, RunS.al H1]
  refine ifB_dec (fun c => ?_) (fun c => ?_)
  · rw [if_pos c] at k
    refine ifB_dec (fun c2 => ?_) (fun c2 => ?_)
    · rw [if_pos c2] at k
      exact RunS.stP H1 fun h2 H2 => k h2 (RunS.drp (RunS.none H2))
    rw [if_neg c2] at k
    refine RunS.stP H1 fun h2 H2 => ?_
    try simp +decide only [nilC, bsx, Nat.reduceAdd, Int.reduceLE, Int.reduceLT, Int.reduceToNat, rsx, g_s, g_s_ne, RunS.al H2]
    refine callV_fn (lnLink_call H2 fun h3 o3 => ?_)
    have H3 := RunS.old H2 o3
    try simp +decide only [nilC, bsx, Nat.reduceAdd, Int.reduceLE, Int.reduceLT, Int.reduceToNat, rsx, g_s, g_s_ne, RunS.al H3, nlink_pc]
    refine callV_fn (rLoad H3 (node_iN P _ _) O.st fun h4 H4 u4 => ?_)
    try simp +decide only [nilC, bsx, Nat.reduceAdd, Int.reduceLE, Int.reduceLT, Int.reduceToNat, rsx, g_s, g_s_ne, RunS.al H4]
    refine callV_fn (lnMark_call u4 ?_)
    try simp +decide only [nilC, bsx, Nat.reduceAdd, Int.reduceLE, Int.reduceLT, Int.reduceToNat, rsx, g_s, g_s_ne, RunS.al H4]
    refine ifB_mk (fun c3 => ?_) (fun c3 => ?_)
    · rw [if_pos c3] at k
      exact RunS.stP H4 fun h5 H5 => k h5 (RunS.drp (RunS.none H5))
    · rw [if_neg (by rw [c3]; simp)] at k
      exact k h4 (RunS.drp (RunS.none H4))
  rw [if_neg c] at k
  refine ifB_dec (fun c => ?_) (fun c => ?_)
  · rw [if_pos c] at k
    have hr := hr2 (by omega)
    refine RunS.stP H1 fun h2 H2 => ?_
    have L2 : RL (x.pc 13) := L.at ⟨rfl, rfl, rfl⟩
    obtain ⟨pb, sb, wb, W⟩ := RunS.rows H2 L2
    have wf := W.f
    try simp +decide only [nilC, bsx, Nat.reduceAdd, Int.reduceLE, Int.reduceLT, Int.reduceToNat, rsx, g_s, g_s_ne, RunS.al H2, wf]
    refine ⟨by omega, hr, ?_⟩
    have wg := W.g (i := (x.f.g 5).toNat) (by show _ < x.t.pred.length; omega)
    try simp +decide only [nilC, bsx, Nat.reduceAdd, Int.reduceLE, Int.reduceLT, Int.reduceToNat, rsx, g_s, g_s_ne, RunS.al H2, wf, wg]
    refine ⟨fun vs h' => ∃ (w : Value) (d : Bool) (y : Run), vs = [w, .bool d] ∧ Sat h' (RunS M T tv (some (b, o)) y (pt N (.cells #[mP M, mP T, fP b o] 120) * R)) ∧ ∀ h'', Sat h'' (RunS M T tv none (if d then y.pc 17 else y) R) → K (.tuple #[]) h'', ?_, ?_⟩
    · refine ifB_mk (fun c2 => ?_) (fun c2 => ?_)
      · have c2' : ¬ (x.pc 13).t.succ.getD (x.f.g 5).toNat 0 = 2 := bne_iff_ne.1 c2
        rw [if_neg c2'] at k
        refine ifB_dec (fun c3 => ?_) (fun c3 => ?_)
        · rw [if_pos c3] at k
          exact ⟨_, _, _, rfl, H2, k⟩
        · rw [if_neg c3] at k
          try simp +decide only [nilC, bsx, Nat.reduceAdd, Int.reduceLE, Int.reduceLT, Int.reduceToNat, rsx, g_s, g_s_ne, RunS.al H2]
          refine callV_fn (lnLink_call H2 fun h3 o3 => ?_)
          have H3 := RunS.old H2 o3
          try simp +decide only [nilC, bsx, Nat.reduceAdd, Int.reduceLE, Int.reduceLT, Int.reduceToNat, rsx, g_s, g_s_ne, RunS.al H3]
          refine callV_fn (rLoad H3 (node_iN P _ _) O.st fun h4 H4 u4 => ?_)
          try simp +decide only [nilC, bsx, Nat.reduceAdd, Int.reduceLE, Int.reduceLT, Int.reduceToNat, rsx, g_s, g_s_ne, RunS.al H4]
          refine callV_fn (lnMark_call u4 ?_)
          try simp only [nilC, bsx, Nat.reduceAdd, Int.reduceLE, Int.reduceLT, Int.reduceToNat]
          exact ⟨_, _, _, rfl, H4, k⟩
      · have c2' : (x.pc 13).t.succ.getD (x.f.g 5).toNat 0 = 2 := bne_eq_false_iff_eq.1 c2
        rw [if_pos c2'] at k
        exact ⟨_, false, _, rfl, H2, k⟩
    rintro v64 v65 g66 h67 ⟨w, d, y, e, H3, k⟩
    cases e
    try simp +decide only [nilC, bsx, Nat.reduceAdd, Int.reduceLE, Int.reduceLT, Int.reduceToNat, rsx, g_s, g_s_ne, RunS.al H3]
    cases d
    · exact k h67 (RunS.drp (RunS.none H3))
    · exact RunS.stP H3 fun h5 H5 => k h5 (RunS.drp (RunS.none H5))
  rw [if_neg c] at k
  refine ifB_dec (fun c => ?_) (fun c => ?_)
  · rw [if_pos c] at k
    refine callV_fn (lnLink_call H1 fun h2 o2 => ?_)
    have H2 := RunS.old H1 o2
    try simp +decide only [nilC, bsx, Nat.reduceAdd, Int.reduceLE, Int.reduceLT, Int.reduceToNat, rsx, g_s, g_s_ne, RunS.al H2]
    refine callV_fn (rLoad H2 (node_iN P _ _) O.st fun h3 H3 u3 => ?_)
    try simp +decide only [nilC, bsx, Nat.reduceAdd, Int.reduceLE, Int.reduceLT, Int.reduceToNat, rsx, g_s, g_s_ne, RunS.al H3]
    exact RunS.stR (i := 6) H3 rfl u3 fun h4 H4 => RunS.stP H4 fun h5 H5 => k h5 (RunS.drp (RunS.none H5))
  rw [if_neg c] at k
  refine ifB_dec (fun c => ?_) (fun c => ?_)
  · rw [if_pos c] at k
    have hr := hr2 (by omega)
    obtain ⟨pb, sb, wb, W⟩ := RunS.rows H1 L
    have wf := W.f
    try simp +decide only [nilC, bsx, Nat.reduceAdd, Int.reduceLE, Int.reduceLT, Int.reduceToNat, rsx, g_s, g_s_ne, RunS.al H1, wf]
    refine ⟨by omega, by omega, ?_⟩
    have wg := W.g (i := (x.f.g 5).toNat) (by omega)
    try simp +decide only [nilC, bsx, Nat.reduceAdd, Int.reduceLE, Int.reduceLT, Int.reduceToNat, rsx, g_s, g_s_ne, RunS.al H1, wg]
    refine callV_fn (lnLink_call H1 fun h2 o2 => ?_)
    have H2 := RunS.old H1 o2
    have W2 := W.old o2
    have wf2 := W2.f
    have wg2 := W2.g (i := (x.f.g 5).toNat) (by omega)
    try simp +decide only [nilC, bsx, Nat.reduceAdd, Int.reduceLE, Int.reduceLT, Int.reduceToNat, rsx, g_s, g_s_ne, RunS.al H2, wf2, wg2]
    refine callV_fn (wNext_call (B.g 6) ?_)
    try simp +decide only [nilC, bsx, Nat.reduceAdd, Int.reduceLE, Int.reduceLT, Int.reduceToNat, rsx, g_s, g_s_ne, RunS.al H2]
    refine callV_fn (rStore H2 (node_iN P _ _) wNext_U O.st fun h3 H3 => ?_)
    exact RunS.stP H3 fun h5 H5 => k h5 (RunS.drp (RunS.none H5))
  rw [if_neg c] at k
  exact k h1 (RunS.drp (RunS.none H1))
theorem liJoin_call (H : Sat h (RunS M T tv (some (b, o)) x R)) (O : Ok x) (L : RL x) (hr2 : x.f.pc = 15 → x.f.g 5 < x.t.pred.length) (k : ∀ h', Sat h' (RunS M T tv none (liJoin x) R) → K (.tuple #[]) h') :
    CallH Tryz.prog 109 #[rV M T b o] h K := by
  refine call109 ?_
  unfold F109 g109 cf ce bd lS lP lI nP
  have B := RunS.fB H
  have P := RunS.pl H
  have hd := O.fr
  have hr0 := (B.g 5).1
  have r0 := RunS.ret H 0
  unfold liJoin at k
  dsimp only at k
  have H1 := RunS.new H (.cells #[mP M, mP T, fP b o] 120); generalize h.push (.cells #[mP M, mP T, fP b o] 120) = h1 at *; generalize h.size = N at *
  try simp +decide only [nilC, bsx, Nat.reduceAdd, Int.reduceLE, Int.reduceLT, Int.reduceToNat, rsx, g_s, g_s_ne, RunS.al H1]
  refine ifB_dec (fun c => ?_) (fun c => ?_)
  · rw [if_pos c] at k
    have hr := hr2 c
    obtain ⟨pb, sb, wb, W⟩ := RunS.rows H1 L
    have wf := W.f
    try simp +decide only [nilC, bsx, Nat.reduceAdd, Int.reduceLE, Int.reduceLT, Int.reduceToNat, rsx, g_s, g_s_ne, RunS.al H1, wf]
    refine ⟨by omega, by omega, ?_⟩
    have wg := W.g (i := (x.f.g 5).toNat) (by omega)
    try simp +decide only [nilC, bsx, Nat.reduceAdd, Int.reduceLE, Int.reduceLT, Int.reduceToNat, rsx, g_s, g_s_ne, RunS.al H1, wf, wg]
    refine ⟨by omega, by omega, ?_⟩
    try simp +decide only [nilC, bsx, Nat.reduceAdd, Int.reduceLE, Int.reduceLT, Int.reduceToNat, rsx, g_s, g_s_ne, RunS.al H1, wf, wg]
    refine callV_fn (lnLink_call H1 fun h2 o2 => ?_)
    have H2 := RunS.old H1 o2
    have W2 := W.old o2
    have wf2 := W2.f
    have wg2 := W2.g (i := (x.f.g 5).toNat) (by omega)
    try simp +decide only [nilC, bsx, Nat.reduceAdd, Int.reduceLE, Int.reduceLT, Int.reduceToNat, rsx, g_s, g_s_ne, RunS.al H2, wf2, wg2]
    refine callV_fn (lnSwing_call H2 (node_iN P _ _) (RunS.woU H2 _) O.st fun h3 H3 => ?_)
    try simp +decide only [nilC, bsx, Nat.reduceAdd, Int.reduceLE, Int.reduceLT, Int.reduceToNat, rsx, g_s, g_s_ne, RunS.al H3]
    have ef : (x.swingM (x.nlink (x.t.pred.getD (x.f.g 5).toNat 0) (x.f.g 5)) (x.t.word.getD (x.f.g 5).toNat 0) (x.f.g 2) false).2.f = x.f := rfl
    refine ifB_mk (fun c3 => ?_) (fun c3 => ?_)
    · rw [if_pos c3] at k
      try simp +decide only [nilC, bsx, Nat.reduceAdd, Int.reduceLE, Int.reduceLT, Int.reduceToNat, rsx, g_s, g_s_ne, RunS.al H3, ef]
      refine RunS.stR (i := 5) H3 rfl (u64_U _) fun h4 H4 => ?_
      try simp +decide only [nilC, bsx, Nat.reduceAdd, Int.reduceLE, Int.reduceLT, Int.reduceToNat, rsx, g_s, g_s_ne, RunS.al H4]
      exact RunS.stP H4 fun h5 H5 => k h5 (RunS.drp (RunS.none H5))
    · rw [if_neg (by rw [c3]; simp)] at k
      try simp +decide only [nilC, bsx, Nat.reduceAdd, Int.reduceLE, Int.reduceLT, Int.reduceToNat, rsx, g_s, g_s_ne, RunS.al H3, ef]
      exact callV_fn (lnCallN H3 [x.f.g 4] rfl (one_U (B.g 4)) rfl (show x.t.fr.length < _ by omega) fun h4 b' o' _ _ H4 => k h4 (RunS.drp (RunS.none H4)))
  rw [if_neg c] at k
  refine ifB_dec (fun c => ?_) (fun c => ?_)
  · rw [if_pos c] at k
    refine RunS.stR (i := 7) H1 rfl r0 fun h2 H2 => ?_
    try simp +decide only [nilC, bsx, Nat.reduceAdd, Int.reduceLE, Int.reduceLT, Int.reduceToNat, rsx, g_s, g_s_ne, RunS.al H2]
    refine RunS.stP H2 fun h3 H3 => ?_
    have L3 : RL ((x.s 7 (x.ret 0)).pc 11) := L.at ⟨rfl, rfl, rfl⟩
    obtain ⟨pb, sb, wb, W⟩ := RunS.rows H3 L3
    have wf := W.f
    have l0 := L3.e0
    have wg := W.g (i := 0) (by omega)
    try simp +decide only [nilC, bsx, Nat.reduceAdd, Int.reduceLE, Int.reduceLT, Int.reduceToNat, rsx, g_s, g_s_ne, RunS.al H3, wf, wg]
    refine ⟨by omega, ?_⟩
    try simp +decide only [nilC, bsx, Nat.reduceAdd, Int.reduceLE, Int.reduceLT, Int.reduceToNat, rsx, g_s, g_s_ne, RunS.al H3, wf, wg]
    refine ifB_mk (fun c2 => ?_) (fun c2 => ?_)
    · rw [if_pos (bne_iff_ne.1 c2)] at k
      exact RunS.stP H3 fun h5 H5 => k h5 (RunS.drp (RunS.none H5))
    · rw [if_neg (fun hh => hh (bne_eq_false_iff_eq.1 c2))] at k
      exact k h3 (RunS.drp (RunS.none H3))
  rw [if_neg c] at k
  refine ifB_dec (fun c => ?_) (fun c => ?_)
  · rw [if_pos c] at k
    refine callV_fn (lnAt_call H1 (by decide) fun h2 o2 => ?_)
    have H2 := RunS.old H1 o2
    try simp +decide only [nilC, bsx, Nat.reduceAdd, Int.reduceLE, Int.reduceLT, Int.reduceToNat, rsx, g_s, g_s_ne, RunS.al H2]
    refine callV_fn (rStore H2 (node_iN P _ _) U0 O.st fun h3 H3 => ?_)
    exact RunS.stP H3 fun h5 H5 => k h5 (RunS.drp (RunS.none H5))
  · rw [if_neg c] at k
    exact callV_fn (lnDone_call H1 U0 (by omega) fun h5 b' o' H5 => k h5 (RunS.drp (RunS.none H5)))
structure LiOk (x : Run) : Prop where
  L : RL x
  a : 12 ≤ x.f.pc → x.f.pc ≤ 15 → x.f.g 5 < x.t.pred.length
theorem liStep_call (H : Sat h (RunS M T tv (some (b, o)) x R)) (O : Ok x) (S : LiOk x) (k : ∀ h', Sat h' (RunS M T tv none (liStep x) R) → K (.tuple #[]) h') :
    CallH Tryz.prog 56 #[rV M T b o] h K := by
  refine call56 ?_
  unfold F56 g56 cf lP lI nP
  unfold liStep at k
  have H1 := RunS.new H (.cells #[mP M, mP T, fP b o] 120); generalize h.push (.cells #[mP M, mP T, fP b o] 120) = h1 at *; generalize h.size = N at *
  try simp +decide only [nilC, bsx, Nat.reduceAdd, Int.reduceLE, Int.reduceLT, Int.reduceToNat, rsx, g_s, g_s_ne, RunS.al H1]
  refine ifB_dec (fun c => ?_) (fun c => ?_)
  · rw [if_pos c] at k
    exact callV_fn (liTake_call H1 O fun h2 H2 => k h2 (RunS.drp H2))
  rw [if_neg c] at k
  refine ifB_dec (fun c => ?_) (fun c => ?_)
  · rw [if_pos c] at k
    exact callV_fn (liLay_call H1 O fun h2 H2 => k h2 (RunS.drp H2))
  rw [if_neg c] at k
  refine ifB_dec (fun c => ?_) (fun c => ?_)
  · rw [if_pos c] at k
    exact callV_fn (liEnter_call H1 O S.L fun h2 H2 => k h2 (RunS.drp H2))
  rw [if_neg c] at k
  refine ifB_dec (fun c => ?_) (fun c => ?_)
  · rw [if_pos c] at k
    exact callV_fn (liClimb_call H1 O S.L (fun hh => S.a hh (by omega)) fun h2 H2 => k h2 (RunS.drp H2))
  rw [if_neg c] at k
  exact callV_fn (liJoin_call H1 O S.L (fun hh => S.a (by omega) (by omega)) fun h2 H2 => k h2 (RunS.drp H2))
end
end
end Go.Proofs.YtglgifgoojncpaaGreat
