/- Part 10 of what the proofs of this seat rest on: see the last text of the claim. -/
import Derived.Test.YtglgifgoojncpaaGreatQ206ad0d267dc
import Derived.Test.YtglgifgoojncpaaGreatProg
set_option linter.unusedSimpArgs false
set_option linter.unusedVariables false
set_option linter.ambiguousOpen false
set_option maxRecDepth 20000
namespace Go.Proofs.YtglgifgoojncpaaGreat
section
set_option maxRecDepth 100000
def F22 (K : Value → Heap → Prop) (h : Heap) (xa xb : Option Addr) : Prop :=
  (cf 42 #[.pointer xb] h fun v0 h1 => asPtrO v0 fun o2 => exI fun I3 => (ifB (Option.isNone o2) (I3 [.bool true] h1) (I3 [.bool (Option.isNone xa)] h1)) ∧ (∀ (v4 : Value) (g5 : Env) (h6 : Heap), (I3 [v4] h6) → (asBool v4 fun b7 => ifB b7 (K (.tuple #[]) h6) (stH (Array.push h6 (.cells #[.pointer none, .pointer none, .pointer none] 96)) ⟨h6.size, 0, none⟩ (.pointer xa) fun h8 => stH h8 ⟨h6.size, 1, none⟩ (.pointer xb) fun h9 => stH h9 ⟨h6.size, 2, none⟩ (.pointer o2) fun h10 => exI fun I11 => (nP o2 fun a12 => lI .i64 h10 a12 fun n14 => ifB (decide (n14 < 21)) (I11 [.bool true, .bool true] h10) (nP o2 fun a15 => lI .i64 h10 a15 fun n17 => I11 [.bool (decide (n17 > 23)), .bool (decide (n17 > 23))] h10)) ∧ (∀ (v18 v19 : Value) (g20 : Env) (h21 : Heap), (I11 [v18, v19] h21) → (asBool v18 fun b22 => ifB b22 (cf 43 #[.pointer xa, .pointer xb] h21 fun v23 h24 => K (.tuple #[]) h24) (nP o2 fun a25 => lI .i64 h21 (Addr.add a25 1) fun n27 => ifB (n27 == 90) (nP o2 fun a28 => bd 7 10 (lI .u64 h21 (Addr.add a28 9) fun n30 => nP o2 fun a31 => bd 8 10 (lI .u64 h21 (Addr.add a31 10) fun n33 => nP o2 fun a34 => bd 9 10 (lI .u64 h21 (Addr.add a34 11) fun n36 => cf 44 #[.pointer xb, .slice (some ⟨h21.size, 0, none⟩) 3 3] (Array.push h21 (.cells #[.int .u64 n30, .int .u64 n33, .int .u64 n36] 65)) fun v37 h38 => K (.tuple #[]) h38)))) (nP o2 fun a39 => lI .i64 h21 a39 fun n41 => ifB (n41 == 21) (ldH h21 ⟨h6.size, 0, none⟩ fun v42 => ldH h21 ⟨h6.size, 1, none⟩ fun v43 => ldH h21 ⟨h6.size, 2, none⟩ fun v44 => cf 45 #[.agg #[v42, v43, v44]] h21 fun v45 h46 => K (.tuple #[]) h46) (ldH h21 ⟨h6.size, 0, none⟩ fun v47 => ldH h21 ⟨h6.size, 1, none⟩ fun v48 => ldH h21 ⟨h6.size, 2, none⟩ fun v49 => cf 46 #[.agg #[v47, v48, v49]] h21 fun v50 h51 => K (.tuple #[]) h51)))))))))
theorem call22 {K : Value → Heap → Prop} {h : Heap} {xa xb : Option Addr} (H : F22 K h xa xb) : CallH Tryz.prog 22 #[(.pointer xa), (.pointer xb)] h K :=
  callH_mk Tryz.func22 (by kernel_rfl) (Eq.mp (by kernel_rfl) H)
def F43 (K : Value → Heap → Prop) (h : Heap) (xa xb : Option Addr) : Prop :=
  (cf 42 #[.pointer xb] h fun v0 h1 => asPtrO v0 fun o2 => exI fun I3 => (ifB (Option.isNone o2) (I3 [.bool true, .bool true] h1) (I3 [.bool (Option.isNone xa), .bool (Option.isNone xa)] h1)) ∧ (∀ (v4 v5 : Value) (g6 : Env) (h7 : Heap), (I3 [v4, v5] h7) → (asBool v4 fun b8 => ifB b8 (K (.tuple #[]) h7) (nP o2 fun a9 => lI .i64 h7 a9 fun n11 => ifB (n11 == 20) (cf 69 #[.agg #[.pointer xa, .pointer xb, .pointer o2]] h7 fun v12 h13 => K (.tuple #[]) h13) (cf 54 #[.pointer xa, .pointer xb] h7 fun v14 h15 => K (.tuple #[]) h15)))))
theorem call43 {K : Value → Heap → Prop} {h : Heap} {xa xb : Option Addr} (H : F43 K h xa xb) : CallH Tryz.prog 43 #[(.pointer xa), (.pointer xb)] h K :=
  callH_mk Tryz.func43 (by kernel_rfl) (Eq.mp (by kernel_rfl) H)
abbrev g45 (K : Value → Heap → Prop) (h H1 : Heap) : Prop :=
  (lP H1 (Addr.add ⟨h.size, 0, none⟩ 2) fun o1 => nP o1 fun a2 => lI .i64 H1 (Addr.add a2 1) fun n4 => ifB (decide (n4 ≤ 2)) (ldH H1 ⟨h.size, 0, none⟩ fun v5 => ldH H1 ⟨h.size, 1, none⟩ fun v6 => ldH H1 ⟨h.size, 2, none⟩ fun v7 => cf 70 #[.agg #[v5, v6, v7]] H1 fun v8 h9 => K (.tuple #[]) h9) (lP H1 (Addr.add ⟨h.size, 0, none⟩ 2) fun o11 => nP o11 fun a12 => lI .i64 H1 (Addr.add a12 1) fun n14 => ifB (decide (n14 ≤ 7)) (ldH H1 ⟨h.size, 0, none⟩ fun v15 => ldH H1 ⟨h.size, 1, none⟩ fun v16 => ldH H1 ⟨h.size, 2, none⟩ fun v17 => cf 71 #[.agg #[v15, v16, v17]] H1 fun v18 h19 => K (.tuple #[]) h19) (lP H1 (Addr.add ⟨h.size, 0, none⟩ 2) fun o21 => nP o21 fun a22 => lI .i64 H1 (Addr.add a22 1) fun n24 => ifB (decide (n24 ≤ 11)) (ldH H1 ⟨h.size, 0, none⟩ fun v25 => ldH H1 ⟨h.size, 1, none⟩ fun v26 => ldH H1 ⟨h.size, 2, none⟩ fun v27 => cf 72 #[.agg #[v25, v26, v27]] H1 fun v28 h29 => K (.tuple #[]) h29) (lP H1 (Addr.add ⟨h.size, 0, none⟩ 2) fun o31 => nP o31 fun a32 => lI .i64 H1 (Addr.add a32 1) fun n34 => ifB (decide (n34 ≤ 14)) (ldH H1 ⟨h.size, 0, none⟩ fun v35 => ldH H1 ⟨h.size, 1, none⟩ fun v36 => ldH H1 ⟨h.size, 2, none⟩ fun v37 => cf 73 #[.agg #[v35, v36, v37]] H1 fun v38 h39 => K (.tuple #[]) h39) (ldH H1 ⟨h.size, 0, none⟩ fun v40 => ldH H1 ⟨h.size, 1, none⟩ fun v41 => ldH H1 ⟨h.size, 2, none⟩ fun v42 => cf 74 #[.agg #[v40, v41, v42]] H1 fun v43 h44 => K (.tuple #[]) h44)))))
def F45 (K : Value → Heap → Prop) (h : Heap) (xa xb xc : Option Addr) : Prop :=
  (g45 K h (Array.push h (.cells #[.pointer xa, .pointer xb, .pointer xc] 102)))
theorem call45 {K : Value → Heap → Prop} {h : Heap} {xa xb xc : Option Addr} (H : F45 K h xa xb xc) : CallH Tryz.prog 45 #[(.agg #[(.pointer xa), (.pointer xb), (.pointer xc)])] h K :=
  callH_mk Tryz.func45 (by kernel_rfl) (Eq.mp (by kernel_rfl) H)
abbrev g46 (K : Value → Heap → Prop) (h H1 : Heap) : Prop :=
  (lP H1 (Addr.add ⟨h.size, 0, none⟩ 2) fun o1 => nP o1 fun a2 => lI .i64 H1 (Addr.add a2 1) fun n4 => ifB (decide (n4 ≤ 3)) (ldH H1 ⟨h.size, 0, none⟩ fun v5 => ldH H1 ⟨h.size, 1, none⟩ fun v6 => ldH H1 ⟨h.size, 2, none⟩ fun v7 => cf 75 #[.agg #[v5, v6, v7]] H1 fun v8 h9 => K (.tuple #[]) h9) (lP H1 (Addr.add ⟨h.size, 0, none⟩ 2) fun o11 => nP o11 fun a12 => lI .i64 H1 (Addr.add a12 1) fun n14 => ifB (decide (n14 ≤ 6)) (ldH H1 ⟨h.size, 0, none⟩ fun v15 => ldH H1 ⟨h.size, 1, none⟩ fun v16 => ldH H1 ⟨h.size, 2, none⟩ fun v17 => cf 76 #[.agg #[v15, v16, v17]] H1 fun v18 h19 => K (.tuple #[]) h19) (lP H1 (Addr.add ⟨h.size, 0, none⟩ 2) fun o21 => nP o21 fun a22 => lI .i64 H1 (Addr.add a22 1) fun n24 => ifB (decide (n24 ≤ 8)) (ldH H1 ⟨h.size, 0, none⟩ fun v25 => ldH H1 ⟨h.size, 1, none⟩ fun v26 => ldH H1 ⟨h.size, 2, none⟩ fun v27 => cf 77 #[.agg #[v25, v26, v27]] H1 fun v28 h29 => K (.tuple #[]) h29) (ldH H1 ⟨h.size, 0, none⟩ fun v30 => ldH H1 ⟨h.size, 1, none⟩ fun v31 => ldH H1 ⟨h.size, 2, none⟩ fun v32 => cf 78 #[.agg #[v30, v31, v32]] H1 fun v33 h34 => K (.tuple #[]) h34))))
def F46 (K : Value → Heap → Prop) (h : Heap) (xa xb xc : Option Addr) : Prop :=
  (g46 K h (Array.push h (.cells #[.pointer xa, .pointer xb, .pointer xc] 103)))
theorem call46 {K : Value → Heap → Prop} {h : Heap} {xa xb xc : Option Addr} (H : F46 K h xa xb xc) : CallH Tryz.prog 46 #[(.agg #[(.pointer xa), (.pointer xb), (.pointer xc)])] h K :=
  callH_mk Tryz.func46 (by kernel_rfl) (Eq.mp (by kernel_rfl) H)
abbrev g69 (K : Value → Heap → Prop) (h H1 : Heap) : Prop :=
  (lP H1 (Addr.add ⟨h.size, 0, none⟩ 2) fun o1 => nP o1 fun a2 => lI .i64 H1 (Addr.add a2 1) fun n4 => ifB (n4 == 0) (ldH H1 ⟨h.size, 0, none⟩ fun v5 => ldH H1 ⟨h.size, 1, none⟩ fun v6 => ldH H1 ⟨h.size, 2, none⟩ fun v7 => cf 128 #[.agg #[v5, v6, v7]] H1 fun v8 h9 => K (.tuple #[]) h9) (ifB (n4 == 1) (ldH H1 ⟨h.size, 0, none⟩ fun v10 => asPtrO v10 fun o11 => lP H1 ⟨h.size, 0, none⟩ fun o13 => ldH H1 (Addr.add ⟨h.size, 0, none⟩ 1) fun v14 => asPtrO v14 fun o15 => nP o15 fun a16 => ldH H1 a16 fun v17 => asInt .i64 v17 fun n18 => ldH H1 ⟨h.size, 0, none⟩ fun v19 => ldH H1 (Addr.add ⟨h.size, 0, none⟩ 1) fun v20 => ldH H1 (Addr.add ⟨h.size, 0, none⟩ 2) fun v21 => nP o1 fun a22 => bd 2 10 (ldH H1 (Addr.add a22 4) fun v23 => asInt .u64 v23 fun n24 => cf 117 #[.pointer o13] H1 fun v25 h26 => asAgg v25 fun vs27 => sizeH vs27 15 (elemH vs27 0 fun v28 => elemH vs27 1 fun v29 => elemH vs27 2 fun v30 => elemH vs27 3 fun v31 => elemH vs27 4 fun v32 => elemH vs27 5 fun v33 => elemH vs27 6 fun v34 => elemH vs27 7 fun v35 => elemH vs27 8 fun v36 => elemH vs27 9 fun v37 => elemH vs27 10 fun v38 => elemH vs27 11 fun v39 => elemH vs27 12 fun v40 => elemH vs27 13 fun v41 => elemH vs27 14 fun v42 => ((cellAt h26 (Addr.add a22 4)) = (some v23)) ∧ (ce h26 h.size 0 v19 (((cellAt h26 (Addr.add ⟨h.size, 0, none⟩ 1)) = (some v20)) ∧ (((cellAt h26 (Addr.add ⟨h.size, 0, none⟩ 2)) = (some v21)) ∧ (((cellAt h26 a16) = (some v17)) ∧ (((cellAt h26 (Addr.add ⟨h.size, 0, none⟩ 1)) = (some v14)) ∧ (ce h26 h.size 0 v10 (cf 131 #[.agg #[v19, v20, v21]] h26 fun v43 h44 => asInt .i64 v43 fun n45 => ((cellAt h44 (Addr.add a22 4)) = (some v23)) ∧ (((cellAt h44 a16) = (some v17)) ∧ (((cellAt h44 (Addr.add ⟨h.size, 0, none⟩ 1)) = (some v14)) ∧ (ce h44 h.size 0 v10 (cf 130 #[.agg #[v28, v29, v30, v31, v32, v33, v34, v35, v36, v37, v38, v39, v40, v41, v42], .int .i64 n18, .int .i64 (IntKind.wrap .i64 (2 * n45))] h44 fun v46 h47 => asInt .i64 v46 fun n48 => ((cellAt h47 (Addr.add a22 4)) = (some v23)) ∧ (ce h47 h.size 0 v10 (cf 129 #[.pointer o11, .int .i64 n48, .int .u64 n24] h47 fun v49 h50 => nP o1 fun a51 => stH h50 (Addr.add a51 1) (.int .i64 2) fun h52 => K (.tuple #[]) h52)))))))))))))))) (ifB (n4 == 2) (ldH H1 ⟨h.size, 0, none⟩ fun v53 => ldH H1 ⟨h.size, 1, none⟩ fun v54 => ldH H1 ⟨h.size, 2, none⟩ fun v55 => ldH H1 ⟨h.size, 0, none⟩ fun v56 => asPtrO v56 fun o57 => ldH H1 ⟨h.size, 0, none⟩ fun v58 => ldH H1 (Addr.add ⟨h.size, 0, none⟩ 1) fun v59 => ldH H1 (Addr.add ⟨h.size, 0, none⟩ 2) fun v60 => nP o1 fun a61 => bd 2 10 (lI .u64 H1 (Addr.add a61 4) fun n63 => cf 133 #[.agg #[v58, v59, v60], .int .u64 n63] H1 fun v64 h65 => asInt .i64 v64 fun n66 => ce h65 h.size 0 v56 (ce h65 h.size 0 v53 (ce h65 h.size 1 v54 (ce h65 h.size 2 v55 (cf 85 #[.pointer o57, .int .i64 n66] h65 fun v67 h68 => asInt .u64 v67 fun n69 => ce h68 h.size 0 v53 (ce h68 h.size 1 v54 (ce h68 h.size 2 v55 (cf 132 #[.agg #[v53, v54, v55], .int .u64 n69] h68 fun v70 h71 => K (.tuple #[]) h71))))))))) (ifB (n4 == 8) (ldH H1 ⟨h.size, 0, none⟩ fun v72 => asPtrO v72 fun o73 => lP H1 ⟨h.size, 0, none⟩ fun o75 => nP o1 fun a76 => bd 2 10 (ldH H1 (Addr.add a76 4) fun v77 => asInt .u64 v77 fun n78 => cf 117 #[.pointer o75] H1 fun v79 h80 => asAgg v79 fun vs81 => sizeH vs81 15 (elemH vs81 0 fun v82 => elemH vs81 1 fun v83 => elemH vs81 2 fun v84 => elemH vs81 3 fun v85 => elemH vs81 4 fun v86 => elemH vs81 5 fun v87 => elemH vs81 6 fun v88 => elemH vs81 7 fun v89 => elemH vs81 8 fun v90 => elemH vs81 9 fun v91 => elemH vs81 10 fun v92 => elemH vs81 11 fun v93 => elemH vs81 12 fun v94 => elemH vs81 13 fun v95 => elemH vs81 14 fun v96 => ((cellAt h80 (Addr.add a76 4)) = (some v77)) ∧ (ce h80 h.size 0 v72 (cf 66 #[.agg #[v82, v83, v84, v85, v86, v87, v88, v89, v90, v91, v92, v93, v94, v95, v96], .int .i64 (IntKind.wrap .i64 n78), .int .i64 4] h80 fun v97 h98 => asInt .i64 v97 fun n99 => ce h98 h.size 0 v72 (cf 85 #[.pointer o73, .int .i64 n99] h98 fun v100 h101 => asInt .u64 v100 fun n102 => nP o1 fun a103 => stH h101 (Addr.add a103 1) (.int .i64 0) fun h104 => K (.tuple #[]) h104)))))) (ldH H1 ⟨h.size, 0, none⟩ fun v105 => ldH H1 ⟨h.size, 1, none⟩ fun v106 => ldH H1 ⟨h.size, 2, none⟩ fun v107 => cf 134 #[.agg #[v105, v106, v107]] H1 fun v108 h109 => K (.tuple #[]) h109)))))
def F69 (K : Value → Heap → Prop) (h : Heap) (xa xb xc : Option Addr) : Prop :=
  (g69 K h (Array.push h (.cells #[.pointer xa, .pointer xb, .pointer xc] 143)))
theorem call69 {K : Value → Heap → Prop} {h : Heap} {xa xb xc : Option Addr} (H : F69 K h xa xb xc) : CallH Tryz.prog 69 #[(.agg #[(.pointer xa), (.pointer xb), (.pointer xc)])] h K :=
  callH_mk Tryz.func69 (by kernel_rfl) (Eq.mp (by kernel_rfl) H)
abbrev g70 (K : Value → Heap → Prop) (h H1 : Heap) : Prop :=
  (lP H1 (Addr.add ⟨h.size, 0, none⟩ 2) fun o1 => nP o1 fun a2 => lI .i64 H1 (Addr.add a2 1) fun n4 => ifB (n4 == 0) (ldH H1 ⟨h.size, 0, none⟩ fun v5 => ldH H1 (Addr.add ⟨h.size, 0, none⟩ 1) fun v6 => ldH H1 (Addr.add ⟨h.size, 0, none⟩ 2) fun v7 => cf 135 #[.agg #[v5, v6, v7], .int .i64 1, .int .i64 1, .slice none 0 0] H1 fun v8 h9 => K (.tuple #[]) h9) (ifB (n4 == 1) (lP H1 (Addr.add ⟨h.size, 0, none⟩ 1) fun o11 => nP o11 fun a12 => bd 0 3 (lI .u64 H1 (Addr.add a12 2) fun n14 => nP o1 fun a15 => bd 2 10 (stH H1 (Addr.add a15 4) (.int .u64 n14) fun h16 => nP o1 fun a17 => bd 2 10 (lI .u64 h16 (Addr.add a17 4) fun n19 => ifB (n19 != 0) (nP o1 fun a20 => stH h16 (Addr.add a20 1) (.int .i64 2) fun h21 => K (.tuple #[]) h21) (exI fun I22 => (nP o1 fun a23 => bd 5 10 (lI .u64 h16 (Addr.add a23 7) fun n25 => ifB (n25 == 0) (lP h16 (Addr.add ⟨h.size, 0, none⟩ 1) fun o27 => nP o27 fun a28 => cf 136 #[.pointer (some (Addr.add a28 8))] h16 fun v29 h30 => asInt .i64 v29 fun n31 => I22 [.bool (decide (n31 > 0)), .bool (decide (n31 > 0))] h30) (I22 [.bool false, .bool false] h16))) ∧ (∀ (v32 v33 : Value) (g34 : Env) (h35 : Heap), (I22 [v32, v33] h35) → (asBool v32 fun b36 => ifB b36 (nP o1 fun a37 => bd 5 10 (stH h35 (Addr.add a37 7) (.int .u64 1) fun h38 => ldH h38 ⟨h.size, 0, none⟩ fun v39 => ldH h38 (Addr.add ⟨h.size, 0, none⟩ 1) fun v40 => ldH h38 (Addr.add ⟨h.size, 0, none⟩ 2) fun v41 => cf 135 #[.agg #[v39, v40, v41], .int .i64 0, .int .i64 6, .slice none 0 0] h38 fun v42 h43 => K (.tuple #[]) h43)) (ldH h35 ⟨h.size, 0, none⟩ fun v44 => ldH h35 (Addr.add ⟨h.size, 0, none⟩ 1) fun v45 => ldH h35 (Addr.add ⟨h.size, 0, none⟩ 2) fun v46 => cf 137 #[.agg #[v44, v45, v46], .int .u64 1, .int .u64 0, .int .u64 0] h35 fun v47 h48 => K (.tuple #[]) h48)))))))) (ifB (n4 == 2) (nP o1 fun a49 => bd 0 10 (ldH H1 (Addr.add a49 2) fun v50 => asInt .u64 v50 fun n51 => lP H1 ⟨h.size, 0, none⟩ fun o53 => nP o1 fun a54 => cf 116 #[.pointer o53, .int .i64 3, .int .u64 1] H1 fun v55 h56 => asInt .u64 v55 fun n57 => ((cellAt h56 (Addr.add a49 2)) = (some v50)) ∧ (cf 138 #[.int .u32 (IntKind.wrap .u32 n51), .int .u32 (IntKind.wrap .u32 n57)] h56 fun v58 h59 => asInt .u64 v58 fun n60 => bd 4 10 (stH h59 (Addr.add a54 6) (.int .u64 n60) fun h61 => lP h61 ⟨h.size, 0, none⟩ fun o63 => ldH h61 ⟨h.size, 0, none⟩ fun v64 => asPtrO v64 fun o65 => nP o1 fun a66 => cf 139 #[.pointer o63] h61 fun v67 h68 => asPtrO v67 fun o69 => ce h68 h.size 0 v64 (cf 117 #[.pointer o65] h68 fun v70 h71 => asAgg v70 fun vs72 => sizeH vs72 15 (elemH vs72 0 fun v73 => elemH vs72 1 fun v74 => elemH vs72 2 fun v75 => elemH vs72 3 fun v76 => elemH vs72 4 fun v77 => elemH vs72 5 fun v78 => elemH vs72 6 fun v79 => elemH vs72 7 fun v80 => elemH vs72 8 fun v81 => elemH vs72 9 fun v82 => elemH vs72 10 fun v83 => elemH vs72 11 fun v84 => elemH vs72 12 fun v85 => elemH vs72 13 fun v86 => elemH vs72 14 fun v87 => cf 62 #[.agg #[v73, v74, v75, v76, v77, v78, v79, v80, v81, v82, v83, v84, v85, v86, v87]] h71 fun v88 h89 => asAgg v88 fun vs90 => sizeH vs90 7 (elemH vs90 0 fun v91 => elemH vs90 1 fun v92 => elemH vs90 2 fun v93 => elemH vs90 3 fun v94 => elemH vs90 4 fun v95 => elemH vs90 5 fun v96 => elemH vs90 6 fun v97 => asInt .i64 v94 fun n98 => cf 140 #[.pointer o69, .int .i64 n98] h89 fun v99 h100 => asInt .i64 v99 fun n101 => bd 3 10 (stH h100 (Addr.add a66 5) (.int .u64 (IntKind.wrap .u64 n101)) fun h102 => nP o1 fun a103 => stH h102 (Addr.add a103 1) (.int .i64 3) fun h104 => K (.tuple #[]) h104)))))))) (K (.tuple #[]) H1))))
def F70 (K : Value → Heap → Prop) (h : Heap) (xa xb xc : Option Addr) : Prop :=
  (g70 K h (Array.push h (.cells #[.pointer xa, .pointer xb, .pointer xc] 102)))
theorem call70 {K : Value → Heap → Prop} {h : Heap} {xa xb xc : Option Addr} (H : F70 K h xa xb xc) : CallH Tryz.prog 70 #[(.agg #[(.pointer xa), (.pointer xb), (.pointer xc)])] h K :=
  callH_mk Tryz.func70 (by kernel_rfl) (Eq.mp (by kernel_rfl) H)
abbrev g71 (K : Value → Heap → Prop) (h H1 : Heap) : Prop :=
  (lP H1 (Addr.add ⟨h.size, 0, none⟩ 2) fun o1 => nP o1 fun a2 => bd 2 10 (lI .u64 H1 (Addr.add a2 4) fun n4 => exI fun I5 => (nP o1 fun a6 => lI .i64 H1 (Addr.add a6 1) fun n8 => ifB (n8 == 3) (ldH H1 ⟨h.size, 0, none⟩ fun v9 => asPtrO v9 fun o10 => ldH H1 ⟨h.size, 0, none⟩ fun v11 => ldH H1 (Addr.add ⟨h.size, 0, none⟩ 1) fun v12 => ldH H1 (Addr.add ⟨h.size, 0, none⟩ 2) fun v13 => nP o1 fun a14 => bd 4 10 (ldH H1 (Addr.add a14 6) fun v15 => asInt .u64 v15 fun n16 => cf 141 #[.agg #[v11, v12, v13], .int .u64 n4, .int .i64 0] H1 fun v17 h18 => asInt .i64 v17 fun n19 => ((cellAt h18 (Addr.add a14 6)) = (some v15)) ∧ (ce h18 h.size 0 v9 (cf 129 #[.pointer o10, .int .i64 n19, .int .u64 n16] h18 fun v20 h21 => I5 [.bool true, .tuple #[], .tuple #[], .tuple #[], .tuple #[]] h21)))) (ifB (n8 == 4) (ldH H1 ⟨h.size, 0, none⟩ fun v22 => asPtrO v22 fun o23 => ldH H1 ⟨h.size, 0, none⟩ fun v24 => ldH H1 (Addr.add ⟨h.size, 0, none⟩ 1) fun v25 => ldH H1 (Addr.add ⟨h.size, 0, none⟩ 2) fun v26 => nP o1 fun a27 => bd 1 10 (ldH H1 (Addr.add a27 3) fun v28 => asInt .u64 v28 fun n29 => cf 141 #[.agg #[v24, v25, v26], .int .u64 n4, .int .i64 1] H1 fun v30 h31 => asInt .i64 v30 fun n32 => ((cellAt h31 (Addr.add a27 3)) = (some v28)) ∧ (ce h31 h.size 0 v22 (cf 142 #[.int .u32 (IntKind.wrap .u32 n29), .bool false] h31 fun v33 h34 => asInt .u64 v33 fun n35 => ce h34 h.size 0 v22 (cf 129 #[.pointer o23, .int .i64 n32, .int .u64 n35] h34 fun v36 h37 => I5 [.bool false, .bool true, .tuple #[], .tuple #[], .tuple #[]] h37))))) (ifB (n8 == 5) (ldH H1 ⟨h.size, 0, none⟩ fun v38 => asPtrO v38 fun o39 => ldH H1 ⟨h.size, 0, none⟩ fun v40 => ldH H1 (Addr.add ⟨h.size, 0, none⟩ 1) fun v41 => ldH H1 (Addr.add ⟨h.size, 0, none⟩ 2) fun v42 => cf 141 #[.agg #[v40, v41, v42], .int .u64 n4, .int .i64 2] H1 fun v43 h44 => asInt .i64 v43 fun n45 => ce h44 h.size 0 v38 (cf 129 #[.pointer o39, .int .i64 n45, .int .u64 2] h44 fun v46 h47 => I5 [.bool false, .bool false, .bool true, .tuple #[], .tuple #[]] h47)) (ifB (n8 == 6) (ldH H1 ⟨h.size, 0, none⟩ fun v48 => asPtrO v48 fun o49 => ldH H1 ⟨h.size, 0, none⟩ fun v50 => ldH H1 (Addr.add ⟨h.size, 0, none⟩ 1) fun v51 => ldH H1 (Addr.add ⟨h.size, 0, none⟩ 2) fun v52 => nP o1 fun a53 => bd 3 10 (ldH H1 (Addr.add a53 5) fun v54 => asInt .u64 v54 fun n55 => cf 141 #[.agg #[v50, v51, v52], .int .u64 n4, .int .i64 3] H1 fun v56 h57 => asInt .i64 v56 fun n58 => ((cellAt h57 (Addr.add a53 5)) = (some v54)) ∧ (ce h57 h.size 0 v48 (cf 129 #[.pointer o49, .int .i64 n58, .int .u64 n55] h57 fun v59 h60 => I5 [.bool false, .bool false, .bool false, .bool true, .tuple #[]] h60)))) (ifB (n8 == 7) (ldH H1 ⟨h.size, 0, none⟩ fun v61 => asPtrO v61 fun o62 => ldH H1 ⟨h.size, 0, none⟩ fun v63 => ldH H1 (Addr.add ⟨h.size, 0, none⟩ 1) fun v64 => ldH H1 (Addr.add ⟨h.size, 0, none⟩ 2) fun v65 => cf 141 #[.agg #[v63, v64, v65], .int .u64 n4, .int .i64 4] H1 fun v66 h67 => asInt .i64 v66 fun n68 => ce h67 h.size 0 v61 (cf 129 #[.pointer o62, .int .i64 n68, .int .u64 0] h67 fun v69 h70 => I5 [.bool false, .bool false, .bool false, .bool false, .bool true] h70)) (I5 [.bool false, .bool false, .bool false, .bool false, .bool false] H1)))))) ∧ (∀ (v71 v72 v73 v74 v75 : Value) (g76 : Env) (h77 : Heap), (I5 [v71, v72, v73, v74, v75] h77) → (nP o1 fun a78 => lI .i64 h77 (Addr.add a78 1) fun n80 => nP o1 fun a81 => stH h77 (Addr.add a81 1) (.int .i64 (IntKind.wrap .i64 (n80 + 1))) fun h82 => K (.tuple #[]) h82))))
def F71 (K : Value → Heap → Prop) (h : Heap) (xa xb xc : Option Addr) : Prop :=
  (g71 K h (Array.push h (.cells #[.pointer xa, .pointer xb, .pointer xc] 102)))
theorem call71 {K : Value → Heap → Prop} {h : Heap} {xa xb xc : Option Addr} (H : F71 K h xa xb xc) : CallH Tryz.prog 71 #[(.agg #[(.pointer xa), (.pointer xb), (.pointer xc)])] h K :=
  callH_mk Tryz.func71 (by kernel_rfl) (Eq.mp (by kernel_rfl) H)
abbrev g72 (K : Value → Heap → Prop) (h H1 : Heap) : Prop :=
  (lP H1 (Addr.add ⟨h.size, 0, none⟩ 2) fun o1 => nP o1 fun a2 => bd 2 10 (lI .u64 H1 (Addr.add a2 4) fun n4 => nP o1 fun a5 => bd 5 10 (lI .u64 H1 (Addr.add a5 7) fun n7 => nP o1 fun a8 => lI .i64 H1 (Addr.add a8 1) fun n10 => ifB (n10 == 8) (nP o1 fun a11 => bd 5 10 (stH H1 (Addr.add a11 7) (.int .u64 0) fun h12 => ldH h12 ⟨h.size, 0, none⟩ fun v13 => ldH h12 (Addr.add ⟨h.size, 0, none⟩ 1) fun v14 => ldH h12 (Addr.add ⟨h.size, 0, none⟩ 2) fun v15 => nP o1 fun a16 => bd 4 10 (lI .u64 h12 (Addr.add a16 6) fun n18 => ((cellAt (Array.push h12 (.cells #[.int .u64 n18] 65)) ⟨h.size, 0, none⟩) = (some v13)) ∧ (((cellAt (Array.push h12 (.cells #[.int .u64 n18] 65)) (Addr.add ⟨h.size, 0, none⟩ 1)) = (some v14)) ∧ (((cellAt (Array.push h12 (.cells #[.int .u64 n18] 65)) (Addr.add ⟨h.size, 0, none⟩ 2)) = (some v15)) ∧ (cf 135 #[.agg #[v13, v14, v15], .int .i64 9, .int .i64 20, .slice (some ⟨h12.size, 0, none⟩) 1 1] (Array.push h12 (.cells #[.int .u64 n18] 65)) fun v19 h20 => K (.tuple #[]) h20)))))) (ifB (n10 == 9) (ldH H1 ⟨h.size, 0, none⟩ fun v21 => asPtrO v21 fun o22 => ldH H1 ⟨h.size, 0, none⟩ fun v23 => ldH H1 (Addr.add ⟨h.size, 0, none⟩ 1) fun v24 => ldH H1 (Addr.add ⟨h.size, 0, none⟩ 2) fun v25 => nP o1 fun a26 => cf 143 #[.agg #[v23, v24, v25], .int .u64 n4, .int .u64 n7] H1 fun v27 h28 => asInt .i64 v27 fun n29 => ce h28 h.size 0 v21 (cf 85 #[.pointer o22, .int .i64 n29] h28 fun v30 h31 => asInt .u64 v30 fun n32 => bd 6 10 (stH h31 (Addr.add a26 8) (.int .u64 n32) fun h33 => nP o1 fun a34 => stH h33 (Addr.add a34 1) (.int .i64 10) fun h35 => K (.tuple #[]) h35))) (ifB (n10 == 10) (ldH H1 ⟨h.size, 0, none⟩ fun v36 => asPtrO v36 fun o37 => ldH H1 ⟨h.size, 0, none⟩ fun v38 => ldH H1 (Addr.add ⟨h.size, 0, none⟩ 1) fun v39 => ldH H1 (Addr.add ⟨h.size, 0, none⟩ 2) fun v40 => nP o1 fun a41 => bd 6 10 (ldH H1 (Addr.add a41 8) fun v42 => asInt .u64 v42 fun n43 => ldH H1 (Addr.add ⟨h.size, 0, none⟩ 1) fun v44 => asPtrO v44 fun o45 => nP o45 fun a46 => ldH H1 (Addr.add a46 6) fun v47 => asSlice v47 fun o48 k49 k50 => bd n7 (k49 : Int) (asPtr (.pointer o48) fun a51 => ldH H1 (Addr.add a51 (n7.toNat * 1)) fun v52 => asInt .u64 v52 fun n53 => cf 143 #[.agg #[v38, v39, v40], .int .u64 n4, .int .u64 n7] H1 fun v54 h55 => asInt .i64 v54 fun n56 => ((cellAt h55 (Addr.add a51 (n7.toNat * 1))) = (some v52)) ∧ (((cellAt h55 (Addr.add a46 6)) = (some v47)) ∧ (((cellAt h55 (Addr.add ⟨h.size, 0, none⟩ 1)) = (some v44)) ∧ (((cellAt h55 (Addr.add a41 8)) = (some v42)) ∧ (ce h55 h.size 0 v36 (cf 144 #[.int .u64 n43, .int .i64 (IntKind.wrap .i64 n53), .bool false] h55 fun v57 h58 => asInt .u64 v57 fun n59 => ce h58 h.size 0 v36 (cf 129 #[.pointer o37, .int .i64 n56, .int .u64 n59] h58 fun v60 h61 => nP o1 fun a62 => bd 5 10 (lI .u64 h61 (Addr.add a62 7) fun n64 => nP o1 fun a65 => bd 5 10 (stH h61 (Addr.add a65 7) (.int .u64 (IntKind.wrap .u64 (n64 + 1))) fun h66 => nP o1 fun a67 => stH h66 (Addr.add a67 1) (.int .i64 9) fun h68 => nP o1 fun a69 => bd 5 10 (lI .u64 h68 (Addr.add a69 7) fun n71 => nP o1 fun a72 => bd 3 10 (lI .u64 h68 (Addr.add a72 5) fun n74 => ifB (decide (n71 ≥ n74)) (nP o1 fun a75 => stH h68 (Addr.add a75 1) (.int .i64 11) fun h76 => K (.tuple #[]) h76) (K (.tuple #[]) h68)))))))))))))) (ifB (n10 == 11) (nP o1 fun a77 => bd 5 10 (stH H1 (Addr.add a77 7) (.int .u64 1) fun h78 => nP o1 fun a79 => stH h78 (Addr.add a79 1) (.int .i64 8) fun h80 => ldH h80 ⟨h.size, 0, none⟩ fun v81 => ldH h80 (Addr.add ⟨h.size, 0, none⟩ 1) fun v82 => ldH h80 (Addr.add ⟨h.size, 0, none⟩ 2) fun v83 => ldH h80 ⟨h.size, 0, none⟩ fun v84 => ldH h80 (Addr.add ⟨h.size, 0, none⟩ 1) fun v85 => ldH h80 (Addr.add ⟨h.size, 0, none⟩ 2) fun v86 => lP h80 (Addr.add ⟨h.size, 0, none⟩ 1) fun o88 => nP o88 fun a89 => lS h80 (Addr.add a89 5) fun o91 k92 k93 => bd 0 (k92 : Int) (asPtr (.pointer o91) fun a94 => lI .u64 h80 a94 fun n96 => ldH h80 (Addr.add ⟨h.size, 0, none⟩ 1) fun v97 => asPtrO v97 fun o98 => nP o98 fun a99 => ldH h80 (Addr.add a99 7) fun v100 => asSlice v100 fun o101 k102 k103 => bd 0 (k102 : Int) (asPtr (.pointer o101) fun a104 => ldH h80 a104 fun v105 => asInt .u64 v105 fun n106 => cf 143 #[.agg #[v84, v85, v86], .int .u64 n96, .int .u64 0] h80 fun v107 h108 => asInt .i64 v107 fun n109 => ((cellAt h108 a104) = (some v105)) ∧ (((cellAt h108 (Addr.add a99 7)) = (some v100)) ∧ (((cellAt h108 (Addr.add ⟨h.size, 0, none⟩ 1)) = (some v97)) ∧ (ce h108 h.size 0 v81 (((cellAt h108 (Addr.add ⟨h.size, 0, none⟩ 1)) = (some v82)) ∧ (((cellAt h108 (Addr.add ⟨h.size, 0, none⟩ 2)) = (some v83)) ∧ (cf 145 #[.agg #[v81, v82, v83], .int .i64 n109, .int .u64 n106, .int .u64 n4] h108 fun v110 h111 => asBool v110 fun b112 => ifB b112 (nP o1 fun a113 => stH h111 (Addr.add a113 1) (.int .i64 12) fun h114 => K (.tuple #[]) h114) (K (.tuple #[]) h111))))))))))) (K (.tuple #[]) H1)))))))
def F72 (K : Value → Heap → Prop) (h : Heap) (xa xb xc : Option Addr) : Prop :=
  (g72 K h (Array.push h (.cells #[.pointer xa, .pointer xb, .pointer xc] 102)))
theorem call72 {K : Value → Heap → Prop} {h : Heap} {xa xb xc : Option Addr} (H : F72 K h xa xb xc) : CallH Tryz.prog 72 #[(.agg #[(.pointer xa), (.pointer xb), (.pointer xc)])] h K :=
  callH_mk Tryz.func72 (by kernel_rfl) (Eq.mp (by kernel_rfl) H)
abbrev g73 (K : Value → Heap → Prop) (h H1 : Heap) : Prop :=
  (lP H1 (Addr.add ⟨h.size, 0, none⟩ 2) fun o1 => nP o1 fun a2 => bd 2 10 (lI .u64 H1 (Addr.add a2 4) fun n4 => nP o1 fun a5 => bd 5 10 (lI .u64 H1 (Addr.add a5 7) fun n7 => nP o1 fun a8 => lI .i64 H1 (Addr.add a8 1) fun n10 => ifB (n10 == 12) (nP o1 fun a11 => bd 3 10 (lI .u64 H1 (Addr.add a11 5) fun n13 => ifB (decide (n7 ≥ n13)) (nP o1 fun a14 => stH H1 (Addr.add a14 1) (.int .i64 15) fun h15 => K (.tuple #[]) h15) (ldH H1 ⟨h.size, 0, none⟩ fun v16 => asPtrO v16 fun o17 => ldH H1 ⟨h.size, 0, none⟩ fun v18 => ldH H1 (Addr.add ⟨h.size, 0, none⟩ 1) fun v19 => ldH H1 (Addr.add ⟨h.size, 0, none⟩ 2) fun v20 => nP o1 fun a21 => cf 143 #[.agg #[v18, v19, v20], .int .u64 n4, .int .u64 n7] H1 fun v22 h23 => asInt .i64 v22 fun n24 => ce h23 h.size 0 v16 (cf 85 #[.pointer o17, .int .i64 n24] h23 fun v25 h26 => asInt .u64 v25 fun n27 => bd 6 10 (stH h26 (Addr.add a21 8) (.int .u64 n27) fun h28 => nP o1 fun a29 => bd 6 10 (lI .u64 h28 (Addr.add a29 8) fun n31 => cf 146 #[.int .u64 n31] h28 fun v32 h33 => asBool v32 fun b34 => ifB b34 (nP o1 fun a35 => stH h33 (Addr.add a35 1) (.int .i64 15) fun h36 => K (.tuple #[]) h36) (nP o1 fun a37 => bd 6 10 (lI .u64 h33 (Addr.add a37 8) fun n39 => ldH h33 (Addr.add ⟨h.size, 0, none⟩ 1) fun v40 => asPtrO v40 fun o41 => nP o41 fun a42 => ldH h33 (Addr.add a42 6) fun v43 => asSlice v43 fun o44 k45 k46 => bd n7 (k45 : Int) (asPtr (.pointer o44) fun a47 => ldH h33 (Addr.add a47 (n7.toNat * 1)) fun v48 => asInt .u64 v48 fun n49 => cf 147 #[.int .u64 n39] h33 fun v50 h51 => asInt .u64 v50 fun n52 => ((cellAt h51 (Addr.add a47 (n7.toNat * 1))) = (some v48)) ∧ (((cellAt h51 (Addr.add a42 6)) = (some v43)) ∧ (((cellAt h51 (Addr.add ⟨h.size, 0, none⟩ 1)) = (some v40)) ∧ (ifB (n52 != n49) (nP o1 fun a53 => stH h51 (Addr.add a53 1) (.int .i64 13) fun h54 => K (.tuple #[]) h54) (nP o1 fun a55 => stH h51 (Addr.add a55 1) (.int .i64 14) fun h56 => K (.tuple #[]) h56))))))))))))) (ifB (n10 == 13) (ldH H1 ⟨h.size, 0, none⟩ fun v57 => ldH H1 (Addr.add ⟨h.size, 0, none⟩ 1) fun v58 => ldH H1 (Addr.add ⟨h.size, 0, none⟩ 2) fun v59 => ldH H1 ⟨h.size, 0, none⟩ fun v60 => ldH H1 (Addr.add ⟨h.size, 0, none⟩ 1) fun v61 => ldH H1 (Addr.add ⟨h.size, 0, none⟩ 2) fun v62 => nP o1 fun a63 => bd 6 10 (ldH H1 (Addr.add a63 8) fun v64 => asInt .u64 v64 fun n65 => ldH H1 (Addr.add ⟨h.size, 0, none⟩ 1) fun v66 => asPtrO v66 fun o67 => nP o67 fun a68 => ldH H1 (Addr.add a68 6) fun v69 => asSlice v69 fun o70 k71 k72 => bd n7 (k71 : Int) (asPtr (.pointer o70) fun a73 => ldH H1 (Addr.add a73 (n7.toNat * 1)) fun v74 => asInt .u64 v74 fun n75 => cf 143 #[.agg #[v60, v61, v62], .int .u64 n4, .int .u64 n7] H1 fun v76 h77 => asInt .i64 v76 fun n78 => ((cellAt h77 (Addr.add a73 (n7.toNat * 1))) = (some v74)) ∧ (((cellAt h77 (Addr.add a68 6)) = (some v69)) ∧ (((cellAt h77 (Addr.add ⟨h.size, 0, none⟩ 1)) = (some v66)) ∧ (((cellAt h77 (Addr.add a63 8)) = (some v64)) ∧ (ce h77 h.size 0 v57 (((cellAt h77 (Addr.add ⟨h.size, 0, none⟩ 1)) = (some v58)) ∧ (((cellAt h77 (Addr.add ⟨h.size, 0, none⟩ 2)) = (some v59)) ∧ (cf 145 #[.agg #[v57, v58, v59], .int .i64 n78, .int .u64 n65, .int .u64 n75] h77 fun v79 h80 => asBool v79 fun b81 => nP o1 fun a82 => stH h80 (Addr.add a82 1) (.int .i64 12) fun h83 => K (.tuple #[]) h83)))))))))) (ifB (n10 == 14) (ldH H1 ⟨h.size, 0, none⟩ fun v84 => ldH H1 (Addr.add ⟨h.size, 0, none⟩ 1) fun v85 => ldH H1 (Addr.add ⟨h.size, 0, none⟩ 2) fun v86 => ldH H1 ⟨h.size, 0, none⟩ fun v87 => ldH H1 (Addr.add ⟨h.size, 0, none⟩ 1) fun v88 => ldH H1 (Addr.add ⟨h.size, 0, none⟩ 2) fun v89 => lP H1 (Addr.add ⟨h.size, 0, none⟩ 1) fun o91 => nP o91 fun a92 => lS H1 (Addr.add a92 5) fun o94 k95 k96 => bd n7 (k95 : Int) (asPtr (.pointer o94) fun a97 => lI .u64 H1 (Addr.add a97 (n7.toNat * 1)) fun n99 => ldH H1 (Addr.add ⟨h.size, 0, none⟩ 1) fun v100 => asPtrO v100 fun o101 => nP o101 fun a102 => ldH H1 (Addr.add a102 7) fun v103 => asSlice v103 fun o104 k105 k106 => bd n7 (k105 : Int) (asPtr (.pointer o104) fun a107 => ldH H1 (Addr.add a107 (n7.toNat * 1)) fun v108 => asInt .u64 v108 fun n109 => cf 143 #[.agg #[v87, v88, v89], .int .u64 n99, .int .u64 n7] H1 fun v110 h111 => asInt .i64 v110 fun n112 => ((cellAt h111 (Addr.add a107 (n7.toNat * 1))) = (some v108)) ∧ (((cellAt h111 (Addr.add a102 7)) = (some v103)) ∧ (((cellAt h111 (Addr.add ⟨h.size, 0, none⟩ 1)) = (some v100)) ∧ (ce h111 h.size 0 v84 (((cellAt h111 (Addr.add ⟨h.size, 0, none⟩ 1)) = (some v85)) ∧ (((cellAt h111 (Addr.add ⟨h.size, 0, none⟩ 2)) = (some v86)) ∧ (cf 145 #[.agg #[v84, v85, v86], .int .i64 n112, .int .u64 n109, .int .u64 n4] h111 fun v113 h114 => asBool v113 fun b115 => ifB b115 (nP o1 fun a116 => bd 5 10 (lI .u64 h114 (Addr.add a116 7) fun n118 => nP o1 fun a119 => bd 5 10 (stH h114 (Addr.add a119 7) (.int .u64 (IntKind.wrap .u64 (n118 + 1))) fun h120 => nP o1 fun a121 => stH h120 (Addr.add a121 1) (.int .i64 12) fun h122 => K (.tuple #[]) h122))) (ldH h114 ⟨h.size, 0, none⟩ fun v123 => ldH h114 (Addr.add ⟨h.size, 0, none⟩ 1) fun v124 => ldH h114 (Addr.add ⟨h.size, 0, none⟩ 2) fun v125 => nP o1 fun a126 => bd 4 10 (lI .u64 h114 (Addr.add a126 6) fun n128 => ((cellAt (Array.push h114 (.cells #[.int .u64 n128] 65)) ⟨h.size, 0, none⟩) = (some v123)) ∧ (((cellAt (Array.push h114 (.cells #[.int .u64 n128] 65)) (Addr.add ⟨h.size, 0, none⟩ 1)) = (some v124)) ∧ (((cellAt (Array.push h114 (.cells #[.int .u64 n128] 65)) (Addr.add ⟨h.size, 0, none⟩ 2)) = (some v125)) ∧ (cf 135 #[.agg #[v123, v124, v125], .int .i64 12, .int .i64 20, .slice (some ⟨h114.size, 0, none⟩) 1 1] (Array.push h114 (.cells #[.int .u64 n128] 65)) fun v129 h130 => K (.tuple #[]) h130)))))))))))))) (K (.tuple #[]) H1))))))
def F73 (K : Value → Heap → Prop) (h : Heap) (xa xb xc : Option Addr) : Prop :=
  (g73 K h (Array.push h (.cells #[.pointer xa, .pointer xb, .pointer xc] 102)))
theorem call73 {K : Value → Heap → Prop} {h : Heap} {xa xb xc : Option Addr} (H : F73 K h xa xb xc) : CallH Tryz.prog 73 #[(.agg #[(.pointer xa), (.pointer xb), (.pointer xc)])] h K :=
  callH_mk Tryz.func73 (by kernel_rfl) (Eq.mp (by kernel_rfl) H)
abbrev g74 (K : Value → Heap → Prop) (h H1 : Heap) : Prop :=
  (lP H1 (Addr.add ⟨h.size, 0, none⟩ 2) fun o1 => nP o1 fun a2 => lI .i64 H1 (Addr.add a2 1) fun n4 => ifB (n4 == 15) (ldH H1 ⟨h.size, 0, none⟩ fun v5 => ldH H1 (Addr.add ⟨h.size, 0, none⟩ 1) fun v6 => ldH H1 (Addr.add ⟨h.size, 0, none⟩ 2) fun v7 => nP o1 fun a8 => bd 2 10 (lI .u64 H1 (Addr.add a8 4) fun n10 => cf 148 #[.agg #[v5, v6, v7], .int .u64 n10] H1 fun v11 h12 => asBool v11 fun b13 => ifB b13 (ldH h12 ⟨h.size, 0, none⟩ fun v14 => ldH h12 (Addr.add ⟨h.size, 0, none⟩ 1) fun v15 => ldH h12 (Addr.add ⟨h.size, 0, none⟩ 2) fun v16 => nP o1 fun a17 => bd 4 10 (lI .u64 h12 (Addr.add a17 6) fun n19 => ((cellAt (Array.push h12 (.cells #[.int .u64 n19] 65)) ⟨h.size, 0, none⟩) = (some v14)) ∧ (((cellAt (Array.push h12 (.cells #[.int .u64 n19] 65)) (Addr.add ⟨h.size, 0, none⟩ 1)) = (some v15)) ∧ (((cellAt (Array.push h12 (.cells #[.int .u64 n19] 65)) (Addr.add ⟨h.size, 0, none⟩ 2)) = (some v16)) ∧ (cf 135 #[.agg #[v14, v15, v16], .int .i64 17, .int .i64 20, .slice (some ⟨h12.size, 0, none⟩) 1 1] (Array.push h12 (.cells #[.int .u64 n19] 65)) fun v20 h21 => K (.tuple #[]) h21))))) (nP o1 fun a22 => stH h12 (Addr.add a22 1) (.int .i64 16) fun h23 => K (.tuple #[]) h23))) (ifB (n4 == 17) (ldH H1 ⟨h.size, 0, none⟩ fun v24 => ldH H1 (Addr.add ⟨h.size, 0, none⟩ 1) fun v25 => ldH H1 (Addr.add ⟨h.size, 0, none⟩ 2) fun v26 => nP o1 fun a27 => bd 2 10 (lI .u64 H1 (Addr.add a27 4) fun n29 => ((cellAt (Array.push H1 (.cells #[.int .u64 n29] 65)) ⟨h.size, 0, none⟩) = (some v24)) ∧ (((cellAt (Array.push H1 (.cells #[.int .u64 n29] 65)) (Addr.add ⟨h.size, 0, none⟩ 1)) = (some v25)) ∧ (((cellAt (Array.push H1 (.cells #[.int .u64 n29] 65)) (Addr.add ⟨h.size, 0, none⟩ 2)) = (some v26)) ∧ (cf 135 #[.agg #[v24, v25, v26], .int .i64 16, .int .i64 5, .slice (some ⟨H1.size, 0, none⟩) 1 1] (Array.push H1 (.cells #[.int .u64 n29] 65)) fun v30 h31 => K (.tuple #[]) h31))))) (ldH H1 ⟨h.size, 0, none⟩ fun v32 => ldH H1 (Addr.add ⟨h.size, 0, none⟩ 1) fun v33 => ldH H1 (Addr.add ⟨h.size, 0, none⟩ 2) fun v34 => cf 137 #[.agg #[v32, v33, v34], .int .u64 0, .int .u64 0, .int .u64 0] H1 fun v35 h36 => K (.tuple #[]) h36)))
def F74 (K : Value → Heap → Prop) (h : Heap) (xa xb xc : Option Addr) : Prop :=
  (g74 K h (Array.push h (.cells #[.pointer xa, .pointer xb, .pointer xc] 102)))
theorem call74 {K : Value → Heap → Prop} {h : Heap} {xa xb xc : Option Addr} (H : F74 K h xa xb xc) : CallH Tryz.prog 74 #[(.agg #[(.pointer xa), (.pointer xb), (.pointer xc)])] h K :=
  callH_mk Tryz.func74 (by kernel_rfl) (Eq.mp (by kernel_rfl) H)
abbrev q75_1 (h37 : Heap) (n35 n38 : Int) : Heap := (Array.push h37 (.cells #[(.int .u64 (IntKind.wrap .u64 (IntKind.wrap .i64 (n35 - 2)))), (.int .u64 (IntKind.wrap .u64 n38))] 65))
abbrev g75 (K : Value → Heap → Prop) (h H1 : Heap) : Prop :=
  (lP H1 (Addr.add ⟨h.size, 0, none⟩ 2) fun o1 => nP o1 fun a2 => lI .i64 H1 (Addr.add a2 1) fun n4 => ifB (n4 == 0) (nP o1 fun a5 => bd 6 10 (stH H1 (Addr.add a5 8) (.int .u64 0) fun h6 => ldH h6 ⟨h.size, 0, none⟩ fun v7 => ldH h6 (Addr.add ⟨h.size, 0, none⟩ 1) fun v8 => ldH h6 (Addr.add ⟨h.size, 0, none⟩ 2) fun v9 => lP h6 ⟨h.size, 0, none⟩ fun o11 => ldH h6 ⟨h.size, 0, none⟩ fun v12 => ldH h6 (Addr.add ⟨h.size, 0, none⟩ 1) fun v13 => ldH h6 (Addr.add ⟨h.size, 0, none⟩ 2) fun v14 => cf 117 #[.pointer o11] h6 fun v15 h16 => asAgg v15 fun vs17 => sizeH vs17 15 (elemH vs17 0 fun v18 => elemH vs17 1 fun v19 => elemH vs17 2 fun v20 => elemH vs17 3 fun v21 => elemH vs17 4 fun v22 => elemH vs17 5 fun v23 => elemH vs17 6 fun v24 => elemH vs17 7 fun v25 => elemH vs17 8 fun v26 => elemH vs17 9 fun v27 => elemH vs17 10 fun v28 => elemH vs17 11 fun v29 => elemH vs17 12 fun v30 => elemH vs17 13 fun v31 => elemH vs17 14 fun v32 => ce h16 h.size 0 v12 (((cellAt h16 (Addr.add ⟨h.size, 0, none⟩ 1)) = (some v13)) ∧ (((cellAt h16 (Addr.add ⟨h.size, 0, none⟩ 2)) = (some v14)) ∧ (ce h16 h.size 0 v7 (((cellAt h16 (Addr.add ⟨h.size, 0, none⟩ 1)) = (some v8)) ∧ (((cellAt h16 (Addr.add ⟨h.size, 0, none⟩ 2)) = (some v9)) ∧ (cf 149 #[.agg #[v18, v19, v20, v21, v22, v23, v24, v25, v26, v27, v28, v29, v30, v31, v32]] h16 fun v33 h34 => asInt .i64 v33 fun n35 => ce h34 h.size 0 v12 (((cellAt h34 (Addr.add ⟨h.size, 0, none⟩ 1)) = (some v13)) ∧ (((cellAt h34 (Addr.add ⟨h.size, 0, none⟩ 2)) = (some v14)) ∧ (ce h34 h.size 0 v7 (((cellAt h34 (Addr.add ⟨h.size, 0, none⟩ 1)) = (some v8)) ∧ (((cellAt h34 (Addr.add ⟨h.size, 0, none⟩ 2)) = (some v9)) ∧ (cf 143 #[.agg #[v12, v13, v14], .int .u64 1, .int .u64 0] h34 fun v36 h37 => asInt .i64 v36 fun n38 => ce h37 h.size 0 v7 (((cellAt h37 (Addr.add ⟨h.size, 0, none⟩ 1)) = (some v8)) ∧ (((cellAt h37 (Addr.add ⟨h.size, 0, none⟩ 2)) = (some v9)) ∧ (ce (q75_1 h37 n35 n38) h.size 0 v7 (((cellAt (q75_1 h37 n35 n38) (Addr.add ⟨h.size, 0, none⟩ 1)) = (some v8)) ∧ (((cellAt (q75_1 h37 n35 n38) (Addr.add ⟨h.size, 0, none⟩ 2)) = (some v9)) ∧ (cf 135 #[.agg #[v7, v8, v9], .int .i64 1, .int .i64 3, .slice (some ⟨h37.size, 0, none⟩) 2 2] (q75_1 h37 n35 n38) fun v39 h40 => K (.tuple #[]) h40))))))))))))))))))))) (ifB (n4 == 1) (ldH H1 (Addr.add ⟨h.size, 0, none⟩ 1) fun v41 => asPtrO v41 fun o42 => nP o42 fun a43 => bd 0 3 (ldH H1 (Addr.add a43 2) fun v44 => asInt .u64 v44 fun n45 => lP H1 (Addr.add ⟨h.size, 0, none⟩ 1) fun o47 => nP o47 fun a48 => bd 0 3 (lI .u64 H1 (Addr.add a48 2) fun n50 => nP o1 fun a51 => nP o1 fun a52 => cf 147 #[.int .u64 n50] H1 fun v53 h54 => asInt .u64 v53 fun n55 => ((cellAt h54 (Addr.add a43 2)) = (some v44)) ∧ (((cellAt h54 (Addr.add ⟨h.size, 0, none⟩ 1)) = (some v41)) ∧ (bd 0 10 (stH h54 (Addr.add a51 2) (.int .u64 n45) fun h56 => bd 1 10 (stH h56 (Addr.add a52 3) (.int .u64 n55) fun h57 => nP o1 fun a58 => stH h57 (Addr.add a58 1) (.int .i64 2) fun h59 => nP o1 fun a60 => bd 1 10 (lI .u64 h59 (Addr.add a60 3) fun n62 => ifB (n62 == 2) (ldH h59 ⟨h.size, 0, none⟩ fun v63 => ldH h59 (Addr.add ⟨h.size, 0, none⟩ 1) fun v64 => ldH h59 (Addr.add ⟨h.size, 0, none⟩ 2) fun v65 => cf 137 #[.agg #[v63, v64, v65], .int .u64 3, .int .u64 0, .int .u64 0] h59 fun v66 h67 => K (.tuple #[]) h67) (K (.tuple #[]) h59))))))))) (ifB (n4 == 2) (ldH H1 ⟨h.size, 0, none⟩ fun v68 => asPtrO v68 fun o69 => ldH H1 ⟨h.size, 0, none⟩ fun v70 => ldH H1 (Addr.add ⟨h.size, 0, none⟩ 1) fun v71 => ldH H1 (Addr.add ⟨h.size, 0, none⟩ 2) fun v72 => nP o1 fun a73 => bd 1 10 (lI .u64 H1 (Addr.add a73 3) fun n75 => nP o1 fun a76 => cf 141 #[.agg #[v70, v71, v72], .int .u64 n75, .int .i64 1] H1 fun v77 h78 => asInt .i64 v77 fun n79 => ce h78 h.size 0 v68 (cf 85 #[.pointer o69, .int .i64 n79] h78 fun v80 h81 => asInt .u64 v80 fun n82 => bd 3 10 (stH h81 (Addr.add a76 5) (.int .u64 n82) fun h83 => nP o1 fun a84 => stH h83 (Addr.add a84 1) (.int .i64 3) fun h85 => nP o1 fun a86 => bd 3 10 (lI .u64 h85 (Addr.add a86 5) fun n88 => cf 150 #[.int .u64 n88] h85 fun v89 h90 => asBool v89 fun b91 => ifB b91 (nP o1 fun a92 => stH h90 (Addr.add a92 1) (.int .i64 6) fun h93 => K (.tuple #[]) h93) (K (.tuple #[]) h90)))))) (ifB (n4 == 3) (ldH H1 ⟨h.size, 0, none⟩ fun v94 => asPtrO v94 fun o95 => ldH H1 ⟨h.size, 0, none⟩ fun v96 => ldH H1 (Addr.add ⟨h.size, 0, none⟩ 1) fun v97 => ldH H1 (Addr.add ⟨h.size, 0, none⟩ 2) fun v98 => nP o1 fun a99 => bd 1 10 (lI .u64 H1 (Addr.add a99 3) fun n101 => nP o1 fun a102 => cf 141 #[.agg #[v96, v97, v98], .int .u64 n101, .int .i64 0] H1 fun v103 h104 => asInt .i64 v103 fun n105 => ce h104 h.size 0 v94 (cf 85 #[.pointer o95, .int .i64 n105] h104 fun v106 h107 => asInt .u64 v106 fun n108 => bd 2 10 (stH h107 (Addr.add a102 4) (.int .u64 n108) fun h109 => nP o1 fun a110 => stH h109 (Addr.add a110 1) (.int .i64 4) fun h111 => nP o1 fun a112 => lI .i64 h111 a112 fun n114 => ifB (n114 == 23) (ldH h111 ⟨h.size, 0, none⟩ fun v115 => ldH h111 ⟨h.size, 1, none⟩ fun v116 => ldH h111 ⟨h.size, 2, none⟩ fun v117 => cf 151 #[.agg #[v115, v116, v117]] h111 fun v118 h119 => K (.tuple #[]) h119) (K (.tuple #[]) h111))))) (K (.tuple #[]) H1)))))
def F75 (K : Value → Heap → Prop) (h : Heap) (xa xb xc : Option Addr) : Prop :=
  (g75 K h (Array.push h (.cells #[.pointer xa, .pointer xb, .pointer xc] 103)))
theorem call75 {K : Value → Heap → Prop} {h : Heap} {xa xb xc : Option Addr} (H : F75 K h xa xb xc) : CallH Tryz.prog 75 #[(.agg #[(.pointer xa), (.pointer xb), (.pointer xc)])] h K :=
  callH_mk Tryz.func75 (by kernel_rfl) (Eq.mp (by kernel_rfl) H)
abbrev g76 (K : Value → Heap → Prop) (h H1 : Heap) : Prop :=
  (lP H1 (Addr.add ⟨h.size, 0, none⟩ 2) fun o1 => nP o1 fun a2 => lI .i64 H1 (Addr.add a2 1) fun n4 => ifB (n4 == 4) (nP o1 fun a5 => stH H1 (Addr.add a5 1) (.int .i64 0) fun h6 => ldH h6 ⟨h.size, 0, none⟩ fun v7 => asPtrO v7 fun o8 => ldH h6 ⟨h.size, 0, none⟩ fun v9 => ldH h6 (Addr.add ⟨h.size, 0, none⟩ 1) fun v10 => ldH h6 (Addr.add ⟨h.size, 0, none⟩ 2) fun v11 => nP o1 fun a12 => bd 1 10 (lI .u64 h6 (Addr.add a12 3) fun n14 => nP o1 fun a15 => bd 3 10 (ldH h6 (Addr.add a15 5) fun v16 => asInt .u64 v16 fun n17 => nP o1 fun a18 => bd 3 10 (ldH h6 (Addr.add a18 5) fun v19 => asInt .u64 v19 fun n20 => cf 141 #[.agg #[v9, v10, v11], .int .u64 n14, .int .i64 1] h6 fun v21 h22 => asInt .i64 v21 fun n23 => ((cellAt h22 (Addr.add a18 5)) = (some v19)) ∧ (((cellAt h22 (Addr.add a15 5)) = (some v16)) ∧ (ce h22 h.size 0 v7 (cf 153 #[.int .u64 n20] h22 fun v24 h25 => asInt .u64 v24 fun n26 => ((cellAt h25 (Addr.add a15 5)) = (some v16)) ∧ (ce h25 h.size 0 v7 (cf 152 #[.pointer o8, .int .i64 n23, .int .u64 n17, .int .u64 n26] h25 fun v27 h28 => asBool v27 fun b29 => ifB b29 (nP o1 fun a30 => bd 6 10 (stH h28 (Addr.add a30 8) (.int .u64 1) fun h31 => nP o1 fun a32 => stH h31 (Addr.add a32 1) (.int .i64 5) fun h33 => K (.tuple #[]) h33)) (K (.tuple #[]) h28)))))))))) (ifB (n4 == 5) (ldH H1 ⟨h.size, 0, none⟩ fun v34 => asPtrO v34 fun o35 => ldH H1 ⟨h.size, 0, none⟩ fun v36 => ldH H1 (Addr.add ⟨h.size, 0, none⟩ 1) fun v37 => ldH H1 (Addr.add ⟨h.size, 0, none⟩ 2) fun v38 => nP o1 fun a39 => bd 1 10 (lI .u64 H1 (Addr.add a39 3) fun n41 => cf 141 #[.agg #[v36, v37, v38], .int .u64 n41, .int .i64 4] H1 fun v42 h43 => asInt .i64 v42 fun n44 => ce h43 h.size 0 v34 (cf 129 #[.pointer o35, .int .i64 n44, .int .u64 1] h43 fun v45 h46 => nP o1 fun a47 => stH h46 (Addr.add a47 1) (.int .i64 6) fun h48 => K (.tuple #[]) h48))) (ifB (n4 == 6) (ldH H1 ⟨h.size, 0, none⟩ fun v49 => asPtrO v49 fun o50 => ldH H1 ⟨h.size, 0, none⟩ fun v51 => ldH H1 (Addr.add ⟨h.size, 0, none⟩ 1) fun v52 => ldH H1 (Addr.add ⟨h.size, 0, none⟩ 2) fun v53 => nP o1 fun a54 => bd 1 10 (lI .u64 H1 (Addr.add a54 3) fun n56 => nP o1 fun a57 => cf 141 #[.agg #[v51, v52, v53], .int .u64 n56, .int .i64 3] H1 fun v58 h59 => asInt .i64 v58 fun n60 => ce h59 h.size 0 v49 (cf 85 #[.pointer o50, .int .i64 n60] h59 fun v61 h62 => asInt .u64 v61 fun n63 => bd 4 10 (stH h62 (Addr.add a57 6) (.int .u64 n63) fun h64 => nP o1 fun a65 => stH h64 (Addr.add a65 1) (.int .i64 7) fun h66 => K (.tuple #[]) h66)))) (K (.tuple #[]) H1))))
def F76 (K : Value → Heap → Prop) (h : Heap) (xa xb xc : Option Addr) : Prop :=
  (g76 K h (Array.push h (.cells #[.pointer xa, .pointer xb, .pointer xc] 103)))
theorem call76 {K : Value → Heap → Prop} {h : Heap} {xa xb xc : Option Addr} (H : F76 K h xa xb xc) : CallH Tryz.prog 76 #[(.agg #[(.pointer xa), (.pointer xb), (.pointer xc)])] h K :=
  callH_mk Tryz.func76 (by kernel_rfl) (Eq.mp (by kernel_rfl) H)
abbrev g77 (K : Value → Heap → Prop) (h H1 : Heap) : Prop :=
  (lP H1 (Addr.add ⟨h.size, 0, none⟩ 2) fun o1 => nP o1 fun a2 => lI .i64 H1 (Addr.add a2 1) fun n4 => ifB (n4 == 7) (nP o1 fun a5 => bd 4 10 (lI .u64 H1 (Addr.add a5 6) fun n7 => ifB (n7 == 0) (nP o1 fun a8 => stH H1 (Addr.add a8 1) (.int .i64 9) fun h9 => nP o1 fun a10 => bd 6 10 (lI .u64 h9 (Addr.add a10 8) fun n12 => ifB (n12 == 1) (nP o1 fun a13 => stH h9 (Addr.add a13 1) (.int .i64 11) fun h14 => K (.tuple #[]) h14) (K (.tuple #[]) h9))) (ldH H1 ⟨h.size, 0, none⟩ fun v15 => asPtrO v15 fun o16 => ldH H1 ⟨h.size, 0, none⟩ fun v17 => ldH H1 (Addr.add ⟨h.size, 0, none⟩ 1) fun v18 => ldH H1 (Addr.add ⟨h.size, 0, none⟩ 2) fun v19 => nP o1 fun a20 => bd 1 10 (lI .u64 H1 (Addr.add a20 3) fun n22 => nP o1 fun a23 => bd 4 10 (lI .u64 H1 (Addr.add a23 6) fun n25 => nP o1 fun a26 => cf 143 #[.agg #[v17, v18, v19], .int .u64 n22, .int .u64 (IntKind.wrap .u64 (n25 - 1))] H1 fun v27 h28 => asInt .i64 v27 fun n29 => ce h28 h.size 0 v15 (cf 85 #[.pointer o16, .int .i64 n29] h28 fun v30 h31 => asInt .u64 v30 fun n32 => bd 5 10 (stH h31 (Addr.add a26 7) (.int .u64 n32) fun h33 => nP o1 fun a34 => stH h33 (Addr.add a34 1) (.int .i64 8) fun h35 => nP o1 fun a36 => bd 5 10 (lI .u64 h35 (Addr.add a36 7) fun n38 => cf 146 #[.int .u64 n38] h35 fun v39 h40 => asBool v39 fun b41 => ifB b41 (nP o1 fun a42 => bd 4 10 (lI .u64 h40 (Addr.add a42 6) fun n44 => nP o1 fun a45 => bd 4 10 (stH h40 (Addr.add a45 6) (.int .u64 (IntKind.wrap .u64 (n44 - 1))) fun h46 => nP o1 fun a47 => stH h46 (Addr.add a47 1) (.int .i64 7) fun h48 => K (.tuple #[]) h48))) (K (.tuple #[]) h40))))))))) (ifB (n4 == 8) (nP o1 fun a49 => stH H1 (Addr.add a49 1) (.int .i64 7) fun h50 => ldH h50 ⟨h.size, 0, none⟩ fun v51 => asPtrO v51 fun o52 => ldH h50 ⟨h.size, 0, none⟩ fun v53 => ldH h50 (Addr.add ⟨h.size, 0, none⟩ 1) fun v54 => ldH h50 (Addr.add ⟨h.size, 0, none⟩ 2) fun v55 => nP o1 fun a56 => bd 1 10 (lI .u64 h50 (Addr.add a56 3) fun n58 => nP o1 fun a59 => bd 4 10 (lI .u64 h50 (Addr.add a59 6) fun n61 => nP o1 fun a62 => bd 5 10 (ldH h50 (Addr.add a62 7) fun v63 => asInt .u64 v63 fun n64 => nP o1 fun a65 => bd 5 10 (ldH h50 (Addr.add a65 7) fun v66 => asInt .u64 v66 fun n67 => cf 143 #[.agg #[v53, v54, v55], .int .u64 n58, .int .u64 (IntKind.wrap .u64 (n61 - 1))] h50 fun v68 h69 => asInt .i64 v68 fun n70 => ((cellAt h69 (Addr.add a65 7)) = (some v66)) ∧ (((cellAt h69 (Addr.add a62 7)) = (some v63)) ∧ (ce h69 h.size 0 v51 (cf 154 #[.int .u64 n67] h69 fun v71 h72 => asInt .u64 v71 fun n73 => ((cellAt h72 (Addr.add a62 7)) = (some v63)) ∧ (ce h72 h.size 0 v51 (cf 152 #[.pointer o52, .int .i64 n70, .int .u64 n64, .int .u64 n73] h72 fun v74 h75 => asBool v74 fun b76 => ifB b76 (nP o1 fun a77 => bd 4 10 (lI .u64 h75 (Addr.add a77 6) fun n79 => nP o1 fun a80 => bd 4 10 (stH h75 (Addr.add a80 6) (.int .u64 (IntKind.wrap .u64 (n79 - 1))) fun h81 => K (.tuple #[]) h81))) (K (.tuple #[]) h75))))))))))) (K (.tuple #[]) H1)))
def F77 (K : Value → Heap → Prop) (h : Heap) (xa xb xc : Option Addr) : Prop :=
  (g77 K h (Array.push h (.cells #[.pointer xa, .pointer xb, .pointer xc] 103)))
theorem call77 {K : Value → Heap → Prop} {h : Heap} {xa xb xc : Option Addr} (H : F77 K h xa xb xc) : CallH Tryz.prog 77 #[(.agg #[(.pointer xa), (.pointer xb), (.pointer xc)])] h K :=
  callH_mk Tryz.func77 (by kernel_rfl) (Eq.mp (by kernel_rfl) H)
abbrev g78 (K : Value → Heap → Prop) (h H1 : Heap) : Prop :=
  (lP H1 (Addr.add ⟨h.size, 0, none⟩ 2) fun o1 => nP o1 fun a2 => lI .i64 H1 (Addr.add a2 1) fun n4 => ifB (n4 == 9) (ldH H1 ⟨h.size, 0, none⟩ fun v5 => asPtrO v5 fun o6 => ldH H1 ⟨h.size, 0, none⟩ fun v7 => ldH H1 (Addr.add ⟨h.size, 0, none⟩ 1) fun v8 => ldH H1 (Addr.add ⟨h.size, 0, none⟩ 2) fun v9 => nP o1 fun a10 => bd 1 10 (lI .u64 H1 (Addr.add a10 3) fun n12 => nP o1 fun a13 => cf 143 #[.agg #[v7, v8, v9], .int .u64 n12, .int .u64 0] H1 fun v14 h15 => asInt .i64 v14 fun n16 => ce h15 h.size 0 v5 (cf 85 #[.pointer o6, .int .i64 n16] h15 fun v17 h18 => asInt .u64 v17 fun n19 => bd 5 10 (stH h18 (Addr.add a13 7) (.int .u64 n19) fun h20 => nP o1 fun a21 => stH h20 (Addr.add a21 1) (.int .i64 10) fun h22 => K (.tuple #[]) h22)))) (ifB (n4 == 10) (ldH H1 ⟨h.size, 0, none⟩ fun v23 => ldH H1 (Addr.add ⟨h.size, 0, none⟩ 1) fun v24 => ldH H1 (Addr.add ⟨h.size, 0, none⟩ 2) fun v25 => ldH H1 ⟨h.size, 0, none⟩ fun v26 => ldH H1 (Addr.add ⟨h.size, 0, none⟩ 1) fun v27 => ldH H1 (Addr.add ⟨h.size, 0, none⟩ 2) fun v28 => nP o1 fun a29 => bd 0 10 (ldH H1 (Addr.add a29 2) fun v30 => asInt .u64 v30 fun n31 => nP o1 fun a32 => bd 5 10 (ldH H1 (Addr.add a32 7) fun v33 => asInt .u64 v33 fun n34 => cf 143 #[.agg #[v26, v27, v28], .int .u64 1, .int .u64 0] H1 fun v35 h36 => asInt .i64 v35 fun n37 => ((cellAt h36 (Addr.add a32 7)) = (some v33)) ∧ (((cellAt h36 (Addr.add a29 2)) = (some v30)) ∧ (ce h36 h.size 0 v23 (((cellAt h36 (Addr.add ⟨h.size, 0, none⟩ 1)) = (some v24)) ∧ (((cellAt h36 (Addr.add ⟨h.size, 0, none⟩ 2)) = (some v25)) ∧ (cf 147 #[.int .u64 n34] h36 fun v38 h39 => asInt .u64 v38 fun n40 => ((cellAt h39 (Addr.add a29 2)) = (some v30)) ∧ (ce h39 h.size 0 v23 (((cellAt h39 (Addr.add ⟨h.size, 0, none⟩ 1)) = (some v24)) ∧ (((cellAt h39 (Addr.add ⟨h.size, 0, none⟩ 2)) = (some v25)) ∧ (cf 145 #[.agg #[v23, v24, v25], .int .i64 n37, .int .u64 n31, .int .u64 n40] h39 fun v41 h42 => asBool v41 fun b43 => nP o1 fun a44 => stH h42 (Addr.add a44 1) (.int .i64 0) fun h45 => K (.tuple #[]) h45)))))))))))) (ifB (n4 == 11) (ldH H1 ⟨h.size, 0, none⟩ fun v46 => ldH H1 (Addr.add ⟨h.size, 0, none⟩ 1) fun v47 => ldH H1 (Addr.add ⟨h.size, 0, none⟩ 2) fun v48 => nP o1 fun a49 => bd 1 10 (lI .u64 H1 (Addr.add a49 3) fun n51 => cf 148 #[.agg #[v46, v47, v48], .int .u64 n51] H1 fun v52 h53 => asBool v52 fun b54 => ifB b54 (ldH h53 ⟨h.size, 0, none⟩ fun v55 => ldH h53 (Addr.add ⟨h.size, 0, none⟩ 1) fun v56 => ldH h53 (Addr.add ⟨h.size, 0, none⟩ 2) fun v57 => nP o1 fun a58 => bd 2 10 (lI .u64 h53 (Addr.add a58 4) fun n60 => ((cellAt (Array.push h53 (.cells #[.int .u64 n60] 65)) ⟨h.size, 0, none⟩) = (some v55)) ∧ (((cellAt (Array.push h53 (.cells #[.int .u64 n60] 65)) (Addr.add ⟨h.size, 0, none⟩ 1)) = (some v56)) ∧ (((cellAt (Array.push h53 (.cells #[.int .u64 n60] 65)) (Addr.add ⟨h.size, 0, none⟩ 2)) = (some v57)) ∧ (cf 135 #[.agg #[v55, v56, v57], .int .i64 12, .int .i64 20, .slice (some ⟨h53.size, 0, none⟩) 1 1] (Array.push h53 (.cells #[.int .u64 n60] 65)) fun v61 h62 => K (.tuple #[]) h62))))) (nP o1 fun a63 => stH h53 (Addr.add a63 1) (.int .i64 13) fun h64 => K (.tuple #[]) h64))) (ifB (n4 == 12) (ldH H1 ⟨h.size, 0, none⟩ fun v65 => ldH H1 (Addr.add ⟨h.size, 0, none⟩ 1) fun v66 => ldH H1 (Addr.add ⟨h.size, 0, none⟩ 2) fun v67 => nP o1 fun a68 => bd 1 10 (lI .u64 H1 (Addr.add a68 3) fun n70 => ((cellAt (Array.push H1 (.cells #[.int .u64 n70] 65)) ⟨h.size, 0, none⟩) = (some v65)) ∧ (((cellAt (Array.push H1 (.cells #[.int .u64 n70] 65)) (Addr.add ⟨h.size, 0, none⟩ 1)) = (some v66)) ∧ (((cellAt (Array.push H1 (.cells #[.int .u64 n70] 65)) (Addr.add ⟨h.size, 0, none⟩ 2)) = (some v67)) ∧ (cf 135 #[.agg #[v65, v66, v67], .int .i64 13, .int .i64 5, .slice (some ⟨H1.size, 0, none⟩) 1 1] (Array.push H1 (.cells #[.int .u64 n70] 65)) fun v71 h72 => K (.tuple #[]) h72))))) (ldH H1 ⟨h.size, 0, none⟩ fun v73 => ldH H1 ⟨h.size, 1, none⟩ fun v74 => ldH H1 ⟨h.size, 2, none⟩ fun v75 => cf 151 #[.agg #[v73, v74, v75]] H1 fun v76 h77 => K (.tuple #[]) h77)))))
def F78 (K : Value → Heap → Prop) (h : Heap) (xa xb xc : Option Addr) : Prop :=
  (g78 K h (Array.push h (.cells #[.pointer xa, .pointer xb, .pointer xc] 103)))
theorem call78 {K : Value → Heap → Prop} {h : Heap} {xa xb xc : Option Addr} (H : F78 K h xa xb xc) : CallH Tryz.prog 78 #[(.agg #[(.pointer xa), (.pointer xb), (.pointer xc)])] h K :=
  callH_mk Tryz.func78 (by kernel_rfl) (Eq.mp (by kernel_rfl) H)
abbrev g128 (K : Value → Heap → Prop) (h H1 : Heap) : Prop :=
  (lP H1 (Addr.add ⟨h.size, 0, none⟩ 2) fun o1 => nP o1 fun a2 => bd 2 10 (stH H1 (Addr.add a2 4) (.int .u64 1) fun h3 => ldH h3 (Addr.add ⟨h.size, 0, none⟩ 2) fun v4 => asPtrO v4 fun o5 => lP h3 ⟨h.size, 0, none⟩ fun o7 => nP o5 fun a8 => cf 117 #[.pointer o7] h3 fun v9 h10 => asAgg v9 fun vs11 => sizeH vs11 15 (elemH vs11 0 fun v12 => elemH vs11 1 fun v13 => elemH vs11 2 fun v14 => elemH vs11 3 fun v15 => elemH vs11 4 fun v16 => elemH vs11 5 fun v17 => elemH vs11 6 fun v18 => elemH vs11 7 fun v19 => elemH vs11 8 fun v20 => elemH vs11 9 fun v21 => elemH vs11 10 fun v22 => elemH vs11 11 fun v23 => elemH vs11 12 fun v24 => elemH vs11 13 fun v25 => elemH vs11 14 fun v26 => ((cellAt h10 (Addr.add ⟨h.size, 0, none⟩ 2)) = (some v4)) ∧ (cf 62 #[.agg #[v12, v13, v14, v15, v16, v17, v18, v19, v20, v21, v22, v23, v24, v25, v26]] h10 fun v27 h28 => asAgg v27 fun vs29 => sizeH vs29 7 (elemH vs29 0 fun v30 => elemH vs29 1 fun v31 => elemH vs29 2 fun v32 => elemH vs29 3 fun v33 => elemH vs29 4 fun v34 => elemH vs29 5 fun v35 => elemH vs29 6 fun v36 => ((cellAt h28 (Addr.add ⟨h.size, 0, none⟩ 2)) = (some v4)) ∧ (asInt .i64 v33 fun n37 => bd 1 10 (stH h28 (Addr.add a8 3) (.int .u64 (IntKind.wrap .u64 (IntKind.wrap .i64 (n37 - 1)))) fun h38 => lP h38 (Addr.add ⟨h.size, 0, none⟩ 2) fun o40 => nP o40 fun a41 => stH h38 (Addr.add a41 1) (.int .i64 1) fun h42 => K (.tuple #[]) h42)))))))
def F128 (K : Value → Heap → Prop) (h : Heap) (xa xb xc : Option Addr) : Prop :=
  (g128 K h (Array.push h (.cells #[.pointer xa, .pointer xb, .pointer xc] 143)))
theorem call128 {K : Value → Heap → Prop} {h : Heap} {xa xb xc : Option Addr} (H : F128 K h xa xb xc) : CallH Tryz.prog 128 #[(.agg #[(.pointer xa), (.pointer xb), (.pointer xc)])] h K :=
  callH_mk Tryz.func128 (by kernel_rfl) (Eq.mp (by kernel_rfl) H)
abbrev g131 (K : Value → Heap → Prop) (h H1 : Heap) : Prop :=
  (lP H1 ⟨h.size, 2, none⟩ fun o1 => nP o1 fun a2 => bd 1 10 (lI .u64 H1 (Addr.add a2 3) fun n4 => K (.int .i64 (IntKind.wrap .i64 n4)) H1))
def F131 (K : Value → Heap → Prop) (h : Heap) (xa xb xc : Option Addr) : Prop :=
  (g131 K h (Array.push h (.cells #[.pointer xa, .pointer xb, .pointer xc] 141)))
theorem call131 {K : Value → Heap → Prop} {h : Heap} {xa xb xc : Option Addr} (H : F131 K h xa xb xc) : CallH Tryz.prog 131 #[(.agg #[(.pointer xa), (.pointer xb), (.pointer xc)])] h K :=
  callH_mk Tryz.func131 (by kernel_rfl) (Eq.mp (by kernel_rfl) H)
abbrev g132 (K : Value → Heap → Prop) (h H1 : Heap) (xa : Int) : Prop :=
  (lP H1 (Addr.add ⟨h.size, 0, none⟩ 2) fun o1 => nP o1 fun a2 => bd 3 10 (stH H1 (Addr.add a2 5) (.int .u64 xa) fun h3 => ldH h3 ⟨h.size, 0, none⟩ fun v4 => ldH h3 (Addr.add ⟨h.size, 0, none⟩ 1) fun v5 => ldH h3 (Addr.add ⟨h.size, 0, none⟩ 2) fun v6 => cf 199 #[.agg #[v4, v5, v6]] h3 fun v7 h8 => asInt .u64 v7 fun n9 => cf 171 #[.int .u64 n9] h8 fun v10 h11 => asBool v10 fun b12 => ifB b12 (lP h11 (Addr.add ⟨h.size, 0, none⟩ 2) fun o14 => nP o14 fun a15 => stH h11 (Addr.add a15 1) (.int .i64 8) fun h16 => K (.tuple #[]) h16) (ldH h11 ⟨h.size, 0, none⟩ fun v17 => ldH h11 (Addr.add ⟨h.size, 0, none⟩ 1) fun v18 => ldH h11 (Addr.add ⟨h.size, 0, none⟩ 2) fun v19 => cf 199 #[.agg #[v17, v18, v19]] h11 fun v20 h21 => asInt .u64 v20 fun n22 => cf 84 #[.int .u64 n22] h21 fun v23 h24 => asInt .i64 v23 fun n25 => ifB (n25 == 2) (ldH h24 ⟨h.size, 0, none⟩ fun v26 => ldH h24 ⟨h.size, 1, none⟩ fun v27 => ldH h24 ⟨h.size, 2, none⟩ fun v28 => cf 200 #[.agg #[v26, v27, v28]] h24 fun v29 h30 => K (.tuple #[]) h30) (lP h24 (Addr.add ⟨h.size, 0, none⟩ 2) fun o32 => nP o32 fun a33 => stH h24 (Addr.add a33 1) (.int .i64 3) fun h34 => K (.tuple #[]) h34))))
def F132 (K : Value → Heap → Prop) (h : Heap) (xa xb xc : Option Addr) (xd : Int) : Prop :=
  (g132 K h (Array.push h (.cells #[.pointer xa, .pointer xb, .pointer xc] 143)) xd)
theorem call132 {K : Value → Heap → Prop} {h : Heap} {xa xb xc : Option Addr} {xd : Int} (H : F132 K h xa xb xc xd) : CallH Tryz.prog 132 #[(.agg #[(.pointer xa), (.pointer xb), (.pointer xc)]), (.int .u64 xd)] h K :=
  callH_mk Tryz.func132 (by kernel_rfl) (Eq.mp (by kernel_rfl) H)
abbrev g133 (K : Value → Heap → Prop) (h H1 : Heap) (xa : Int) : Prop :=
  (lP H1 ⟨h.size, 0, none⟩ fun o1 => ldH H1 ⟨h.size, 0, none⟩ fun v2 => ldH H1 ⟨h.size, 1, none⟩ fun v3 => ldH H1 ⟨h.size, 2, none⟩ fun v4 => cf 117 #[.pointer o1] H1 fun v5 h6 => asAgg v5 fun vs7 => sizeH vs7 15 (elemH vs7 0 fun v8 => elemH vs7 1 fun v9 => elemH vs7 2 fun v10 => elemH vs7 3 fun v11 => elemH vs7 4 fun v12 => elemH vs7 5 fun v13 => elemH vs7 6 fun v14 => elemH vs7 7 fun v15 => elemH vs7 8 fun v16 => elemH vs7 9 fun v17 => elemH vs7 10 fun v18 => elemH vs7 11 fun v19 => elemH vs7 12 fun v20 => elemH vs7 13 fun v21 => elemH vs7 14 fun v22 => ce h6 h.size 0 v2 (ce h6 h.size 1 v3 (ce h6 h.size 2 v4 (cf 131 #[.agg #[v2, v3, v4]] h6 fun v23 h24 => asInt .i64 v23 fun n25 => cf 66 #[.agg #[v8, v9, v10, v11, v12, v13, v14, v15, v16, v17, v18, v19, v20, v21, v22], .int .i64 (IntKind.wrap .i64 xa), .int .i64 (IntKind.wrap .i64 (5 + n25))] h24 fun v26 h27 => asInt .i64 v26 fun n28 => K (.int .i64 n28) h27)))))
def F133 (K : Value → Heap → Prop) (h : Heap) (xa xb xc : Option Addr) (xd : Int) : Prop :=
  (g133 K h (Array.push h (.cells #[.pointer xa, .pointer xb, .pointer xc] 141)) xd)
theorem call133 {K : Value → Heap → Prop} {h : Heap} {xa xb xc : Option Addr} {xd : Int} (H : F133 K h xa xb xc xd) : CallH Tryz.prog 133 #[(.agg #[(.pointer xa), (.pointer xb), (.pointer xc)]), (.int .u64 xd)] h K :=
  callH_mk Tryz.func133 (by kernel_rfl) (Eq.mp (by kernel_rfl) H)
abbrev g134 (K : Value → Heap → Prop) (h H1 : Heap) : Prop :=
  (lP H1 (Addr.add ⟨h.size, 0, none⟩ 2) fun o1 => ldH H1 ⟨h.size, 0, none⟩ fun v2 => ldH H1 (Addr.add ⟨h.size, 0, none⟩ 1) fun v3 => ldH H1 (Addr.add ⟨h.size, 0, none⟩ 2) fun v4 => cf 199 #[.agg #[v2, v3, v4]] H1 fun v5 h6 => asInt .u64 v5 fun n7 => cf 84 #[.int .u64 n7] h6 fun v8 h9 => asInt .i64 v8 fun n10 => nP o1 fun a11 => lI .i64 h9 (Addr.add a11 1) fun n13 => ifB (n13 == 3) (ldH h9 ⟨h.size, 0, none⟩ fun v14 => asPtrO v14 fun o15 => lP h9 ⟨h.size, 0, none⟩ fun o17 => ldH h9 (Addr.add ⟨h.size, 0, none⟩ 1) fun v18 => asPtrO v18 fun o19 => nP o19 fun a20 => ldH h9 a20 fun v21 => asInt .i64 v21 fun n22 => ldH h9 ⟨h.size, 0, none⟩ fun v23 => ldH h9 (Addr.add ⟨h.size, 0, none⟩ 1) fun v24 => ldH h9 (Addr.add ⟨h.size, 0, none⟩ 2) fun v25 => cf 117 #[.pointer o17] h9 fun v26 h27 => asAgg v26 fun vs28 => sizeH vs28 15 (elemH vs28 0 fun v29 => elemH vs28 1 fun v30 => elemH vs28 2 fun v31 => elemH vs28 3 fun v32 => elemH vs28 4 fun v33 => elemH vs28 5 fun v34 => elemH vs28 6 fun v35 => elemH vs28 7 fun v36 => elemH vs28 8 fun v37 => elemH vs28 9 fun v38 => elemH vs28 10 fun v39 => elemH vs28 11 fun v40 => elemH vs28 12 fun v41 => elemH vs28 13 fun v42 => elemH vs28 14 fun v43 => ce h27 h.size 0 v23 (((cellAt h27 (Addr.add ⟨h.size, 0, none⟩ 1)) = (some v24)) ∧ (((cellAt h27 (Addr.add ⟨h.size, 0, none⟩ 2)) = (some v25)) ∧ (((cellAt h27 a20) = (some v21)) ∧ (((cellAt h27 (Addr.add ⟨h.size, 0, none⟩ 1)) = (some v18)) ∧ (ce h27 h.size 0 v14 (cf 131 #[.agg #[v23, v24, v25]] h27 fun v44 h45 => asInt .i64 v44 fun n46 => ((cellAt h45 a20) = (some v21)) ∧ (((cellAt h45 (Addr.add ⟨h.size, 0, none⟩ 1)) = (some v18)) ∧ (ce h45 h.size 0 v14 (cf 130 #[.agg #[v29, v30, v31, v32, v33, v34, v35, v36, v37, v38, v39, v40, v41, v42, v43], .int .i64 n22, .int .i64 (IntKind.wrap .i64 ((IntKind.wrap .i64 (2 * n46)) + 1))] h45 fun v47 h48 => asInt .i64 v47 fun n49 => ce h48 h.size 0 v14 (cf 129 #[.pointer o15, .int .i64 n49, .int .u64 (IntKind.wrap .u64 n10)] h48 fun v50 h51 => nP o1 fun a52 => stH h51 (Addr.add a52 1) (.int .i64 4) fun h53 => K (.tuple #[]) h53)))))))))))) (ifB (n13 == 4) (ldH h9 ⟨h.size, 0, none⟩ fun v54 => asPtrO v54 fun o55 => ldH h9 ⟨h.size, 0, none⟩ fun v56 => ldH h9 (Addr.add ⟨h.size, 0, none⟩ 1) fun v57 => ldH h9 (Addr.add ⟨h.size, 0, none⟩ 2) fun v58 => nP o1 fun a59 => bd 2 10 (lI .u64 h9 (Addr.add a59 4) fun n61 => cf 133 #[.agg #[v56, v57, v58], .int .u64 n61] h9 fun v62 h63 => asInt .i64 v62 fun n64 => ce h63 h.size 0 v54 (cf 85 #[.pointer o55, .int .i64 n64] h63 fun v65 h66 => asInt .u64 v65 fun n67 => nP o1 fun a68 => bd 3 10 (lI .u64 h66 (Addr.add a68 5) fun n70 => ifB (n67 != n70) (ldH h66 ⟨h.size, 0, none⟩ fun v71 => ldH h66 ⟨h.size, 1, none⟩ fun v72 => ldH h66 ⟨h.size, 2, none⟩ fun v73 => cf 132 #[.agg #[v71, v72, v73], .int .u64 n67] h66 fun v74 h75 => K (.tuple #[]) h75) (nP o1 fun a76 => stH h66 (Addr.add a76 1) (.int .i64 5) fun h77 => K (.tuple #[]) h77))))) (ifB (n13 == 5) (ldH h9 ⟨h.size, 0, none⟩ fun v78 => asPtrO v78 fun o79 => ldH h9 ⟨h.size, 0, none⟩ fun v80 => ldH h9 (Addr.add ⟨h.size, 0, none⟩ 1) fun v81 => ldH h9 (Addr.add ⟨h.size, 0, none⟩ 2) fun v82 => nP o1 fun a83 => cf 133 #[.agg #[v80, v81, v82], .int .u64 (IntKind.wrap .u64 n10)] h9 fun v84 h85 => asInt .i64 v84 fun n86 => ce h85 h.size 0 v78 (cf 85 #[.pointer o79, .int .i64 n86] h85 fun v87 h88 => asInt .u64 v87 fun n89 => bd 4 10 (stH h88 (Addr.add a83 6) (.int .u64 n89) fun h90 => nP o1 fun a91 => stH h90 (Addr.add a91 1) (.int .i64 7) fun h92 => nP o1 fun a93 => bd 4 10 (lI .u64 h92 (Addr.add a93 6) fun n95 => cf 171 #[.int .u64 n95] h92 fun v96 h97 => asBool v96 fun b98 => ifB b98 (nP o1 fun a99 => stH h97 (Addr.add a99 1) (.int .i64 6) fun h100 => K (.tuple #[]) h100) (K (.tuple #[]) h97))))) (ifB (n13 == 6) (ldH h9 ⟨h.size, 0, none⟩ fun v101 => ldH h9 (Addr.add ⟨h.size, 0, none⟩ 1) fun v102 => ldH h9 (Addr.add ⟨h.size, 0, none⟩ 2) fun v103 => nP o1 fun a104 => bd 4 10 (ldH h9 (Addr.add a104 6) fun v105 => asInt .u64 v105 fun n106 => cf 199 #[.agg #[v101, v102, v103]] h9 fun v107 h108 => asInt .u64 v107 fun n109 => ((cellAt h108 (Addr.add a104 6)) = (some v105)) ∧ (cf 84 #[.int .u64 n106] h108 fun v110 h111 => asInt .i64 v110 fun n112 => cf 144 #[.int .u64 n109, .int .i64 n112, .bool false] h111 fun v113 h114 => asInt .u64 v113 fun n115 => ldH h114 ⟨h.size, 0, none⟩ fun v116 => asPtrO v116 fun o117 => ldH h114 ⟨h.size, 0, none⟩ fun v118 => ldH h114 (Addr.add ⟨h.size, 0, none⟩ 1) fun v119 => ldH h114 (Addr.add ⟨h.size, 0, none⟩ 2) fun v120 => nP o1 fun a121 => bd 2 10 (lI .u64 h114 (Addr.add a121 4) fun n123 => nP o1 fun a124 => bd 3 10 (ldH h114 (Addr.add a124 5) fun v125 => asInt .u64 v125 fun n126 => cf 133 #[.agg #[v118, v119, v120], .int .u64 n123] h114 fun v127 h128 => asInt .i64 v127 fun n129 => ((cellAt h128 (Addr.add a124 5)) = (some v125)) ∧ (ce h128 h.size 0 v116 (cf 152 #[.pointer o117, .int .i64 n129, .int .u64 n126, .int .u64 n115] h128 fun v130 h131 => asBool v130 fun b132 => ifB (!b132) (nP o1 fun a133 => stH h131 (Addr.add a133 1) (.int .i64 2) fun h134 => K (.tuple #[]) h134) (ldH h131 ⟨h.size, 0, none⟩ fun v135 => ldH h131 ⟨h.size, 1, none⟩ fun v136 => ldH h131 ⟨h.size, 2, none⟩ fun v137 => cf 132 #[.agg #[v135, v136, v137], .int .u64 n115] h131 fun v138 h139 => K (.tuple #[]) h139)))))))) (ifB (n13 == 7) (ldH h9 ⟨h.size, 0, none⟩ fun v140 => asPtrO v140 fun o141 => lP h9 ⟨h.size, 0, none⟩ fun o143 => nP o1 fun a144 => bd 0 10 (ldH h9 (Addr.add a144 2) fun v145 => asInt .u64 v145 fun n146 => cf 117 #[.pointer o143] h9 fun v147 h148 => asAgg v147 fun vs149 => sizeH vs149 15 (elemH vs149 0 fun v150 => elemH vs149 1 fun v151 => elemH vs149 2 fun v152 => elemH vs149 3 fun v153 => elemH vs149 4 fun v154 => elemH vs149 5 fun v155 => elemH vs149 6 fun v156 => elemH vs149 7 fun v157 => elemH vs149 8 fun v158 => elemH vs149 9 fun v159 => elemH vs149 10 fun v160 => elemH vs149 11 fun v161 => elemH vs149 12 fun v162 => elemH vs149 13 fun v163 => elemH vs149 14 fun v164 => ((cellAt h148 (Addr.add a144 2)) = (some v145)) ∧ (ce h148 h.size 0 v140 (cf 66 #[.agg #[v150, v151, v152, v153, v154, v155, v156, v157, v158, v159, v160, v161, v162, v163, v164], .int .i64 (IntKind.wrap .i64 (IntKind.wrap .u64 n10)), .int .i64 0] h148 fun v165 h166 => asInt .i64 v165 fun n167 => ((cellAt h166 (Addr.add a144 2)) = (some v145)) ∧ (ce h166 h.size 0 v140 (cf 85 #[.pointer o141, .int .i64 n167] h166 fun v168 h169 => asInt .u64 v168 fun n170 => ((cellAt h169 (Addr.add a144 2)) = (some v145)) ∧ (ifB (decide (n170 ≥ n146)) (ldH h169 ⟨h.size, 0, none⟩ fun v171 => ldH h169 ⟨h.size, 1, none⟩ fun v172 => ldH h169 ⟨h.size, 2, none⟩ fun v173 => cf 200 #[.agg #[v171, v172, v173]] h169 fun v174 h175 => K (.tuple #[]) h175) (nP o1 fun a176 => bd 2 10 (stH h169 (Addr.add a176 4) (.int .u64 (IntKind.wrap .u64 n10)) fun h177 => nP o1 fun a178 => stH h177 (Addr.add a178 1) (.int .i64 1) fun h179 => K (.tuple #[]) h179)))))))))) (K (.tuple #[]) h9))))))
def F134 (K : Value → Heap → Prop) (h : Heap) (xa xb xc : Option Addr) : Prop :=
  (g134 K h (Array.push h (.cells #[.pointer xa, .pointer xb, .pointer xc] 143)))
theorem call134 {K : Value → Heap → Prop} {h : Heap} {xa xb xc : Option Addr} (H : F134 K h xa xb xc) : CallH Tryz.prog 134 #[(.agg #[(.pointer xa), (.pointer xb), (.pointer xc)])] h K :=
  callH_mk Tryz.func134 (by kernel_rfl) (Eq.mp (by kernel_rfl) H)
abbrev g135 (K : Value → Heap → Prop) (h H1 : Heap) (xa xb : Int) (xc : Option Addr) (xd xe : Nat) : Prop :=
  (lP H1 ⟨h.size, 2, none⟩ fun o1 => nP o1 fun a2 => stH H1 (Addr.add a2 1) (.int .i64 xa) fun h3 => lP h3 ⟨h.size, 1, none⟩ fun o5 => cf 38 #[.pointer o5, .int .i64 xb, .slice xc xd xe] h3 fun v6 h7 => K (.tuple #[]) h7)
def F135 (K : Value → Heap → Prop) (h : Heap) (xa xb xc : Option Addr) (xd xe : Int) (xf : Option Addr) (xg xh : Nat) : Prop :=
  (g135 K h (Array.push h (.cells #[.pointer xa, .pointer xb, .pointer xc] 96)) xd xe xf xg xh)
theorem call135 {K : Value → Heap → Prop} {h : Heap} {xa xb xc : Option Addr} {xd xe : Int} {xf : Option Addr} {xg xh : Nat} (H : F135 K h xa xb xc xd xe xf xg xh) : CallH Tryz.prog 135 #[(.agg #[(.pointer xa), (.pointer xb), (.pointer xc)]), (.int .i64 xd), (.int .i64 xe), (.slice xf xg xh)] h K :=
  callH_mk Tryz.func135 (by kernel_rfl) (Eq.mp (by kernel_rfl) H)
abbrev g137 (K : Value → Heap → Prop) (h H1 : Heap) (xa xb xc : Int) : Prop :=
  (lP H1 ⟨h.size, 2, none⟩ fun o1 => ldH H1 ⟨h.size, 2, none⟩ fun v2 => asPtrO v2 fun o3 => ldH H1 ⟨h.size, 2, none⟩ fun v4 => asPtrO v4 fun o5 => nP o1 fun a6 => bd 7 10 (nP o3 fun a7 => nP o5 fun a8 => stH H1 (Addr.add a6 9) (.int .u64 xa) fun h9 => ce h9 h.size 2 v4 (ce h9 h.size 2 v2 (bd 8 10 (stH h9 (Addr.add a7 10) (.int .u64 xb) fun h10 => ce h10 h.size 2 v4 (bd 9 10 (stH h10 (Addr.add a8 11) (.int .u64 xc) fun h11 => ldH h11 ⟨h.size, 0, none⟩ fun v12 => ldH h11 ⟨h.size, 1, none⟩ fun v13 => ldH h11 ⟨h.size, 2, none⟩ fun v14 => cf 135 #[.agg #[v12, v13, v14], .int .i64 90, .int .i64 4, .slice none 0 0] h11 fun v15 h16 => K (.tuple #[]) h16)))))))
def F137 (K : Value → Heap → Prop) (h : Heap) (xa xb xc : Option Addr) (xd xe xf : Int) : Prop :=
  (g137 K h (Array.push h (.cells #[.pointer xa, .pointer xb, .pointer xc] 96)) xd xe xf)
theorem call137 {K : Value → Heap → Prop} {h : Heap} {xa xb xc : Option Addr} {xd xe xf : Int} (H : F137 K h xa xb xc xd xe xf) : CallH Tryz.prog 137 #[(.agg #[(.pointer xa), (.pointer xb), (.pointer xc)]), (.int .u64 xd), (.int .u64 xe), (.int .u64 xf)] h K :=
  callH_mk Tryz.func137 (by kernel_rfl) (Eq.mp (by kernel_rfl) H)
abbrev g141 (K : Value → Heap → Prop) (h H1 : Heap) (xa xb : Int) : Prop :=
  (lP H1 ⟨h.size, 0, none⟩ fun o1 => cf 117 #[.pointer o1] H1 fun v2 h3 => asAgg v2 fun vs4 => sizeH vs4 15 (elemH vs4 0 fun v5 => elemH vs4 1 fun v6 => elemH vs4 2 fun v7 => elemH vs4 3 fun v8 => elemH vs4 4 fun v9 => elemH vs4 5 fun v10 => elemH vs4 6 fun v11 => elemH vs4 7 fun v12 => elemH vs4 8 fun v13 => elemH vs4 9 fun v14 => elemH vs4 10 fun v15 => elemH vs4 11 fun v16 => elemH vs4 12 fun v17 => elemH vs4 13 fun v18 => elemH vs4 14 fun v19 => cf 66 #[.agg #[v5, v6, v7, v8, v9, v10, v11, v12, v13, v14, v15, v16, v17, v18, v19], .int .i64 (IntKind.wrap .i64 xa), .int .i64 xb] h3 fun v20 h21 => asInt .i64 v20 fun n22 => K (.int .i64 n22) h21))
def F141 (K : Value → Heap → Prop) (h : Heap) (xa xb xc : Option Addr) (xd xe : Int) : Prop :=
  (g141 K h (Array.push h (.cells #[.pointer xa, .pointer xb, .pointer xc] 96)) xd xe)
theorem call141 {K : Value → Heap → Prop} {h : Heap} {xa xb xc : Option Addr} {xd xe : Int} (H : F141 K h xa xb xc xd xe) : CallH Tryz.prog 141 #[(.agg #[(.pointer xa), (.pointer xb), (.pointer xc)]), (.int .u64 xd), (.int .i64 xe)] h K :=
  callH_mk Tryz.func141 (by kernel_rfl) (Eq.mp (by kernel_rfl) H)
abbrev g143 (K : Value → Heap → Prop) (h H1 : Heap) (xa xb : Int) : Prop :=
  (ldH H1 ⟨h.size, 0, none⟩ fun v0 => ldH H1 ⟨h.size, 1, none⟩ fun v1 => ldH H1 ⟨h.size, 2, none⟩ fun v2 => cf 141 #[.agg #[v0, v1, v2], .int .u64 xa, .int .i64 (IntKind.wrap .i64 (5 + (IntKind.wrap .i64 xb)))] H1 fun v3 h4 => asInt .i64 v3 fun n5 => K (.int .i64 n5) h4)
def F143 (K : Value → Heap → Prop) (h : Heap) (xa xb xc : Option Addr) (xd xe : Int) : Prop :=
  (g143 K h (Array.push h (.cells #[.pointer xa, .pointer xb, .pointer xc] 96)) xd xe)
theorem call143 {K : Value → Heap → Prop} {h : Heap} {xa xb xc : Option Addr} {xd xe : Int} (H : F143 K h xa xb xc xd xe) : CallH Tryz.prog 143 #[(.agg #[(.pointer xa), (.pointer xb), (.pointer xc)]), (.int .u64 xd), (.int .u64 xe)] h K :=
  callH_mk Tryz.func143 (by kernel_rfl) (Eq.mp (by kernel_rfl) H)
abbrev g145 (K : Value → Heap → Prop) (h H1 : Heap) (xa xb xc : Int) : Prop :=
  (ldH H1 ⟨h.size, 0, none⟩ fun v0 => asPtrO v0 fun o1 => cf 144 #[.int .u64 xb, .int .i64 (IntKind.wrap .i64 xc), .bool false] H1 fun v2 h3 => asInt .u64 v2 fun n4 => ce h3 h.size 0 v0 (cf 152 #[.pointer o1, .int .i64 xa, .int .u64 xb, .int .u64 n4] h3 fun v5 h6 => asBool v5 fun b7 => K (.bool b7) h6))
def F145 (K : Value → Heap → Prop) (h : Heap) (xa xb xc : Option Addr) (xd xe xf : Int) : Prop :=
  (g145 K h (Array.push h (.cells #[.pointer xa, .pointer xb, .pointer xc] 96)) xd xe xf)
theorem call145 {K : Value → Heap → Prop} {h : Heap} {xa xb xc : Option Addr} {xd xe xf : Int} (H : F145 K h xa xb xc xd xe xf) : CallH Tryz.prog 145 #[(.agg #[(.pointer xa), (.pointer xb), (.pointer xc)]), (.int .i64 xd), (.int .u64 xe), (.int .u64 xf)] h K :=
  callH_mk Tryz.func145 (by kernel_rfl) (Eq.mp (by kernel_rfl) H)
def F146 (K : Value → Heap → Prop) (h : Heap) (xa : Int) : Prop :=
  (cf 171 #[.int .u64 xa] h fun v0 h1 => asBool v0 fun b2 => K (.bool b2) h1)
theorem call146 {K : Value → Heap → Prop} {h : Heap} {xa : Int} (H : F146 K h xa) : CallH Tryz.prog 146 #[(.int .u64 xa)] h K :=
  callH_mk Tryz.func146 (by kernel_rfl) (Eq.mp (by kernel_rfl) H)
def F147 (K : Value → Heap → Prop) (h : Heap) (xa : Int) : Prop :=
  (cf 84 #[.int .u64 xa] h fun v0 h1 => asInt .i64 v0 fun n2 => K (.int .u64 (IntKind.wrap .u64 n2)) h1)
theorem call147 {K : Value → Heap → Prop} {h : Heap} {xa : Int} (H : F147 K h xa) : CallH Tryz.prog 147 #[(.int .u64 xa)] h K :=
  callH_mk Tryz.func147 (by kernel_rfl) (Eq.mp (by kernel_rfl) H)
abbrev g148 (K : Value → Heap → Prop) (h H1 : Heap) (xa : Int) : Prop :=
  (ldH H1 ⟨h.size, 0, none⟩ fun v0 => asPtrO v0 fun o1 => ldH H1 ⟨h.size, 0, none⟩ fun v2 => ldH H1 ⟨h.size, 1, none⟩ fun v3 => ldH H1 ⟨h.size, 2, none⟩ fun v4 => cf 141 #[.agg #[v2, v3, v4], .int .u64 xa, .int .i64 2] H1 fun v5 h6 => asInt .i64 v5 fun n7 => ce h6 h.size 0 v0 (cf 116 #[.pointer o1, .int .i64 n7, .int .u64 18446744073709551615] h6 fun v8 h9 => asInt .u64 v8 fun n10 => K (.bool (n10 == 1)) h9))
def F148 (K : Value → Heap → Prop) (h : Heap) (xa xb xc : Option Addr) (xd : Int) : Prop :=
  (g148 K h (Array.push h (.cells #[.pointer xa, .pointer xb, .pointer xc] 96)) xd)
theorem call148 {K : Value → Heap → Prop} {h : Heap} {xa xb xc : Option Addr} {xd : Int} (H : F148 K h xa xb xc xd) : CallH Tryz.prog 148 #[(.agg #[(.pointer xa), (.pointer xb), (.pointer xc)]), (.int .u64 xd)] h K :=
  callH_mk Tryz.func148 (by kernel_rfl) (Eq.mp (by kernel_rfl) H)
abbrev g151 (K : Value → Heap → Prop) (h H1 : Heap) : Prop :=
  (ldH H1 ⟨h.size, 0, none⟩ fun v0 => ldH H1 (Addr.add ⟨h.size, 0, none⟩ 1) fun v1 => ldH H1 (Addr.add ⟨h.size, 0, none⟩ 2) fun v2 => lP H1 (Addr.add ⟨h.size, 0, none⟩ 2) fun o4 => nP o4 fun a5 => bd 2 10 (lI .u64 H1 (Addr.add a5 4) fun n7 => ldH H1 (Addr.add ⟨h.size, 0, none⟩ 2) fun v8 => asPtrO v8 fun o9 => nP o9 fun a10 => bd 3 10 (ldH H1 (Addr.add a10 5) fun v11 => asInt .u64 v11 fun n12 => cf 196 #[.int .u64 n7] H1 fun v13 h14 => asInt .u32 v13 fun n15 => ((cellAt h14 (Addr.add a10 5)) = (some v11)) ∧ (((cellAt h14 (Addr.add ⟨h.size, 0, none⟩ 2)) = (some v8)) ∧ (ce h14 h.size 0 v0 (((cellAt h14 (Addr.add ⟨h.size, 0, none⟩ 1)) = (some v1)) ∧ (((cellAt h14 (Addr.add ⟨h.size, 0, none⟩ 2)) = (some v2)) ∧ (cf 203 #[.int .u64 n12] h14 fun v16 h17 => asInt .u32 v16 fun n18 => ce h17 h.size 0 v0 (((cellAt h17 (Addr.add ⟨h.size, 0, none⟩ 1)) = (some v1)) ∧ (((cellAt h17 (Addr.add ⟨h.size, 0, none⟩ 2)) = (some v2)) ∧ (cf 137 #[.agg #[v0, v1, v2], .int .u64 2, .int .u64 (IntKind.wrap .u64 n15), .int .u64 (IntKind.wrap .u64 n18)] h17 fun v19 h20 => K (.tuple #[]) h20)))))))))))
def F151 (K : Value → Heap → Prop) (h : Heap) (xa xb xc : Option Addr) : Prop :=
  (g151 K h (Array.push h (.cells #[.pointer xa, .pointer xb, .pointer xc] 103)))
theorem call151 {K : Value → Heap → Prop} {h : Heap} {xa xb xc : Option Addr} (H : F151 K h xa xb xc) : CallH Tryz.prog 151 #[(.agg #[(.pointer xa), (.pointer xb), (.pointer xc)])] h K :=
  callH_mk Tryz.func151 (by kernel_rfl) (Eq.mp (by kernel_rfl) H)
abbrev g199 (K : Value → Heap → Prop) (h H1 : Heap) : Prop :=
  (lP H1 ⟨h.size, 2, none⟩ fun o1 => nP o1 fun a2 => bd 3 10 (lI .u64 H1 (Addr.add a2 5) fun n4 => K (.int .u64 n4) H1))
def F199 (K : Value → Heap → Prop) (h : Heap) (xa xb xc : Option Addr) : Prop :=
  (g199 K h (Array.push h (.cells #[.pointer xa, .pointer xb, .pointer xc] 141)))
theorem call199 {K : Value → Heap → Prop} {h : Heap} {xa xb xc : Option Addr} (H : F199 K h xa xb xc) : CallH Tryz.prog 199 #[(.agg #[(.pointer xa), (.pointer xb), (.pointer xc)])] h K :=
  callH_mk Tryz.func199 (by kernel_rfl) (Eq.mp (by kernel_rfl) H)
abbrev g200 (K : Value → Heap → Prop) (h H1 : Heap) : Prop :=
  (ldH H1 (Addr.add ⟨h.size, 0, none⟩ 2) fun v0 => asPtrO v0 fun o1 => ldH H1 ⟨h.size, 0, none⟩ fun v2 => ldH H1 (Addr.add ⟨h.size, 0, none⟩ 1) fun v3 => ldH H1 (Addr.add ⟨h.size, 0, none⟩ 2) fun v4 => cf 131 #[.agg #[v2, v3, v4]] H1 fun v5 h6 => asInt .i64 v5 fun n7 => ((cellAt h6 (Addr.add ⟨h.size, 0, none⟩ 2)) = (some v0)) ∧ (ldH h6 (Addr.add ⟨h.size, 0, none⟩ 1) fun v8 => asPtrO v8 fun o9 => nP o9 fun a10 => ldH h6 (Addr.add a10 5) fun v11 => asSlice v11 fun o12 k13 k14 => ldH h6 (Addr.add ⟨h.size, 0, none⟩ 1) fun v15 => asPtrO v15 fun o16 => nP o16 fun a17 => ldH h6 (Addr.add a17 7) fun v18 => asSlice v18 fun o19 k20 k21 => ldH h6 (Addr.add ⟨h.size, 0, none⟩ 1) fun v22 => asPtrO v22 fun o23 => nP o23 fun a24 => ldH h6 (Addr.add a24 6) fun v25 => asSlice v25 fun o26 k27 k28 => nP o1 fun a29 => bd 2 10 (ldH h6 (Addr.add a29 4) fun v30 => asInt .u64 v30 fun n31 => nP o1 fun a32 => bd 3 10 (ldH h6 (Addr.add a32 5) fun v33 => asInt .u64 v33 fun n34 => ldH h6 ⟨h.size, 0, none⟩ fun v35 => ldH h6 (Addr.add ⟨h.size, 0, none⟩ 1) fun v36 => ldH h6 (Addr.add ⟨h.size, 0, none⟩ 2) fun v37 => cf 199 #[.agg #[v35, v36, v37]] h6 fun v38 h39 => asInt .u64 v38 fun n40 => ((cellAt h39 (Addr.add a32 5)) = (some v33)) ∧ (((cellAt h39 (Addr.add a29 4)) = (some v30)) ∧ (((cellAt h39 (Addr.add a24 6)) = (some v25)) ∧ (((cellAt h39 (Addr.add ⟨h.size, 0, none⟩ 1)) = (some v22)) ∧ (((cellAt h39 (Addr.add a17 7)) = (some v18)) ∧ (((cellAt h39 (Addr.add ⟨h.size, 0, none⟩ 1)) = (some v15)) ∧ (((cellAt h39 (Addr.add a10 5)) = (some v11)) ∧ (((cellAt h39 (Addr.add ⟨h.size, 0, none⟩ 1)) = (some v8)) ∧ (cf 84 #[.int .u64 n40] h39 fun v41 h42 => asInt .i64 v41 fun n43 => ((cellAt h42 (Addr.add a32 5)) = (some v33)) ∧ (((cellAt h42 (Addr.add a29 4)) = (some v30)) ∧ (((cellAt h42 (Addr.add a24 6)) = (some v25)) ∧ (((cellAt h42 (Addr.add ⟨h.size, 0, none⟩ 1)) = (some v22)) ∧ (((cellAt h42 (Addr.add a17 7)) = (some v18)) ∧ (((cellAt h42 (Addr.add ⟨h.size, 0, none⟩ 1)) = (some v15)) ∧ (((cellAt h42 (Addr.add a10 5)) = (some v11)) ∧ (((cellAt h42 (Addr.add ⟨h.size, 0, none⟩ 1)) = (some v8)) ∧ (bd n7 (k13 : Int) (asPtr (.pointer o12) fun a44 => stH h42 (Addr.add a44 (n7.toNat * 1)) (.int .u64 n31) fun h45 => bd n7 (k20 : Int) (asPtr (.pointer o19) fun a46 => stH h45 (Addr.add a46 (n7.toNat * 1)) (.int .u64 n34) fun h47 => bd n7 (k27 : Int) (asPtr (.pointer o26) fun a48 => stH h47 (Addr.add a48 (n7.toNat * 1)) (.int .u64 (IntKind.wrap .u64 n43)) fun h49 => ifB (n7 == 0) (lP h49 (Addr.add ⟨h.size, 0, none⟩ 1) fun o51 => cf 44 #[.pointer o51, .slice none 0 0] h49 fun v52 h53 => K (.tuple #[]) h53) (nP o1 fun a54 => bd 1 10 (lI .u64 h49 (Addr.add a54 3) fun n56 => nP o1 fun a57 => bd 1 10 (stH h49 (Addr.add a57 3) (.int .u64 (IntKind.wrap .u64 (n56 - 1))) fun h58 => nP o1 fun a59 => stH h58 (Addr.add a59 1) (.int .i64 1) fun h60 => K (.tuple #[]) h60))))))))))))))))))))))))))
def F200 (K : Value → Heap → Prop) (h : Heap) (xa xb xc : Option Addr) : Prop :=
  (g200 K h (Array.push h (.cells #[.pointer xa, .pointer xb, .pointer xc] 143)))
theorem call200 {K : Value → Heap → Prop} {h : Heap} {xa xb xc : Option Addr} (H : F200 K h xa xb xc) : CallH Tryz.prog 200 #[(.agg #[(.pointer xa), (.pointer xb), (.pointer xc)])] h K :=
  callH_mk Tryz.func200 (by kernel_rfl) (Eq.mp (by kernel_rfl) H)
end
section
open Mod
def Thr.setPl (t : Thr) (p s w : List Int) : Thr := { t with pred := p, succ := s, word := w }
theorem thrS_rows {h : Heap} {T : Nat} {fo : Option (Nat × Nat)} {t : Thr} {id : Int} {R : Hp} (H : Sat h (thrS T fo t id * R)) : ∃ pb sb wb, ∃ Q : Hp,
    (∀ h' P, Sat h' (Q * P) → cellAt h' ⟨T, 5, none⟩ = some (.slice (some ⟨pb, 0, none⟩) t.pred.length t.pred.length) ∧ cellAt h' ⟨T, 6, none⟩ = some (.slice (some ⟨sb, 0, none⟩) t.succ.length t.succ.length) ∧ cellAt h' ⟨T, 7, none⟩ = some (.slice (some ⟨wb, 0, none⟩) t.word.length t.word.length)) ∧
    Sat h (pt pb (.cells (uvs t.pred).toArray 65) * (pt sb (.cells (uvs t.succ).toArray 65) * (pt wb (.cells (uvs t.word).toArray 65) * (Q * R)))) ∧
    ∀ R' h' p s w, p.length = t.pred.length → s.length = t.succ.length → w.length = t.word.length → (∀ v ∈ p, U v) → (∀ v ∈ s, U v) → (∀ v ∈ w, U v) →
      Sat h' (pt pb (.cells (uvs p).toArray 65) * (pt sb (.cells (uvs s).toArray 65) * (pt wb (.cells (uvs w).toArray 65) * (Q * R')))) → Sat h' (thrS T fo (Thr.setPl t p s w) id * R') := by
  obtain ⟨B, x, H0⟩ := thrS_iff.1 H
  refine ⟨B.pred, B.succ, B.word, pt T (.cells (thrC B t id).toArray 88) * (ownS 99 12 B.fr t.fr.length B.frn (t.fr.flatMap frc) * (ownS 3 1 B.re t.retired.length B.ren (t.retired.map iv) * ownF B.fo t.found.length B.fon t.found)), fun h' P HQ => ?_, Sat.ac H0 (by ac_rfl), ?_⟩
  · have O := Sat.at (star_assoc _ _ _ ▸ HQ)
    exact ⟨cellR O rfl, cellR O rfl, cellR O rfl⟩
  · intro R' h' p s w hp hs hw up us uw H1
    obtain ⟨b1, b2, b3, b4, b5, b6, b7, b8⟩ := x.1
    refine thrS_iff.2 ⟨B, ⟨⟨b1, b2, up, us, uw, b6, b7, b8⟩, x.2⟩, ?_⟩
    unfold Thr.setPl thrC
    simp only [hp, hs, hw]
    exact Sat.ac H1 (by ac_rfl)
section
variable {K : Value → Heap → Prop} {h : Heap} {M T b o N : Nat} {tv : Value} {fo : Option (Nat × Nat)} {x : Run} {R : Hp}
theorem runRows (H : Sat h (RunS M T tv fo x R)) : ∃ pb sb wb, ∃ Q : Hp,
    (∀ h' P, Sat h' (Q * P) → cellAt h' ⟨T, 5, none⟩ = some (.slice (some ⟨pb, 0, none⟩) x.t.pred.length x.t.pred.length) ∧ cellAt h' ⟨T, 6, none⟩ = some (.slice (some ⟨sb, 0, none⟩) x.t.succ.length x.t.succ.length) ∧ cellAt h' ⟨T, 7, none⟩ = some (.slice (some ⟨wb, 0, none⟩) x.t.word.length x.t.word.length)) ∧
    Sat h (pt pb (.cells (uvs x.t.pred).toArray 65) * (pt sb (.cells (uvs x.t.succ).toArray 65) * (pt wb (.cells (uvs x.t.word).toArray 65) * (Q * (macS M tv x.m * R))))) ∧
    ∀ h' p s w, p.length = x.t.pred.length → s.length = x.t.succ.length → w.length = x.t.word.length → (∀ v ∈ p, U v) → (∀ v ∈ s, U v) → (∀ v ∈ w, U v) →
      Sat h' (pt pb (.cells (uvs p).toArray 65) * (pt sb (.cells (uvs s).toArray 65) * (pt wb (.cells (uvs w).toArray 65) * (Q * (macS M tv x.m * R))))) → Sat h' (RunS M T tv fo (x.setPl p s w) R) := by
  obtain ⟨pb, sb, wb, Q, h1, h2, h3⟩ := thrS_rows (RunS.thr H)
  exact ⟨pb, sb, wb, Q, h1, h2, fun h' p s w a1 a2 a3 a4 a5 a6 H1 => RunS.ofThr (h3 _ h' p s w a1 a2 a3 a4 a5 a6 H1)⟩
theorem uvs_cell {h : Heap} {B : Nat} {l : List Int} {t : TypeId} (e : h[B]? = some (.cells (uvs l).toArray t)) {i : Int} (h0 : 0 ≤ i) (h1 : i < l.length) : cellAt h ⟨B, i.toNat, none⟩ = some (.int .u64 (l.getD i.toNat 0)) := uvs_at e h0 h1
theorem fRow_call (H : Sat h (RunS M T tv (some (b, o)) x R)) (k : ∀ h', Old h.size h h' → K (.int .i64 (s64 (x.f.g 1))) h') :
    CallH Tryz.prog 131 #[rV M T b o] h K := by
  refine call131 ?_
  unfold F131 g131 bd lP lI nP
  have oo : Old h.size h (h.push (.cells #[mP M, mP T, fP b o] 141)) := (Old.refl _ _).push _ (Nat.le_refl _)
  have H1 := RunS.new H (.cells #[mP M, mP T, fP b o] 141); generalize h.push (.cells #[mP M, mP T, fP b o] 141) = h1 at *; generalize h.size = N at *
  try simp +decide only [nilC, bsx, Nat.reduceAdd, Int.reduceLE, Int.reduceLT, Int.reduceToNat, rsx, g_s, g_s_ne, RunS.al H1]
  exact k h1 oo
theorem fWord_call (H : Sat h (RunS M T tv (some (b, o)) x R)) (k : ∀ h', Old h.size h h' → K (.int .u64 (x.f.g 3)) h') :
    CallH Tryz.prog 199 #[rV M T b o] h K := by
  refine call199 ?_
  unfold F199 g199 bd lP lI nP
  have oo : Old h.size h (h.push (.cells #[mP M, mP T, fP b o] 141)) := (Old.refl _ _).push _ (Nat.le_refl _)
  have H1 := RunS.new H (.cells #[mP M, mP T, fP b o] 141); generalize h.push (.cells #[mP M, mP T, fP b o] 141) = h1 at *; generalize h.size = N at *
  try simp +decide only [nilC, bsx, Nat.reduceAdd, Int.reduceLE, Int.reduceLT, Int.reduceToNat, rsx, g_s, g_s_ne, RunS.al H1]
  exact k h1 oo
theorem fLink_call (H : Sat h (RunS M T tv (some (b, o)) x R)) {n : Int} (hr : 0 ≤ s64 (x.f.g 1) ∧ s64 (x.f.g 1) < 1000) (k : ∀ h', Old h.size h h' → K (.int .i64 (x.nlink n (x.f.g 1))) h') :
    CallH Tryz.prog 133 #[rV M T b o, .int .u64 n] h K := by
  refine call133 ?_
  unfold F133 g133 cf ce lP
  have oo : Old h.size h (h.push (.cells #[mP M, mP T, fP b o] 141)) := (Old.refl _ _).push _ (Nat.le_refl _)
  have P := RunS.pl H
  have s1 := oo.1
  have H1 := RunS.new H (.cells #[mP M, mP T, fP b o] 141); generalize h.push (.cells #[mP M, mP T, fP b o] 141) = h1 at *; generalize h.size = N at *
  try simp +decide only [nilC, bsx, Nat.reduceAdd, Int.reduceLE, Int.reduceLT, Int.reduceToNat, rsx, g_s, g_s_ne, RunS.al H1]
  refine callV_fn (rPlanO H1 fun h2 o2 => pl15 ?_)
  have H2 := RunS.old H1 o2
  try simp +decide only [nilC, bsx, Nat.reduceAdd, Int.reduceLE, Int.reduceLT, Int.reduceToNat, rsx, g_s, g_s_ne, RunS.al H2]
  refine callV_fn (fRow_call H2 fun h3 o3 => ?_)
  try simp only [nilC, bsx, Nat.reduceAdd, Int.reduceLE, Int.reduceLT, Int.reduceToNat]
  rw [show s64 (5 + s64 (x.f.g 1)) = 5 + s64 (x.f.g 1) from by rw [← wraps_eq, wrap64_id' (by omega) (by omega)]]
  refine callV_fn (plNode_call P (s64_iN _) ⟨by omega, by omega⟩ fun h4 o4 => ?_)
  try simp only [nilC, bsx, Nat.reduceAdd, Int.reduceLE, Int.reduceLT, Int.reduceToNat]
  exact k h4 (oo.trans (((o2.trans (o3.mono o2.1)).trans (o4.mono (Nat.le_trans o2.1 o3.1))).mono s1))
structure RowOk (x : Run) (r : Int) : Prop where
  r : 0 ≤ s64 r ∧ s64 r < x.t.pred.length
  e1 : x.t.succ.length = x.t.pred.length
  e2 : x.t.word.length = x.t.pred.length
  e3 : x.t.pred.length ≤ 6
theorem fSettle_call (H : Sat h (RunS M T tv (some (b, o)) x R)) (hr : RowOk x (x.f.g 1)) (k : ∀ h', Sat h' (RunS M T tv none (fSettle x) R) → K (.tuple #[]) h') :
    CallH Tryz.prog 200 #[rV M T b o] h K := by
  refine call200 ?_
  unfold F200 g200 cf bd lP lI nP
  have B := RunS.fB H
  have TB := RunS.B H
  obtain ⟨⟨r0, r1⟩, e1, e2, e3⟩ := hr
  unfold fSettle at k
  dsimp only at k
  have H1 := RunS.new H (.cells #[mP M, mP T, fP b o] 143); generalize h.push (.cells #[mP M, mP T, fP b o] 143) = h1 at *; generalize h.size = N at *
  try simp +decide only [nilC, bsx, Nat.reduceAdd, Int.reduceLE, Int.reduceLT, Int.reduceToNat, rsx, g_s, g_s_ne, RunS.al H1]
  refine callV_fn (fRow_call H1 fun h2 o2 => ?_)
  have H2 := RunS.old H1 o2
  obtain ⟨pb, sb, wb, Q, hQ, HR, re⟩ := runRows H2
  obtain ⟨c5, c6, c7⟩ := hQ h2 _ HR.drop.drop.drop
  have d5 : ∀ F : Value → Prop, ldH h2 ⟨T, 5, none⟩ F = F (.slice (some ⟨pb, 0, none⟩) x.t.pred.length x.t.pred.length) := fun F => by unfold ldH; rw [c5]
  have d6 : ∀ F : Value → Prop, ldH h2 ⟨T, 6, none⟩ F = F (.slice (some ⟨sb, 0, none⟩) x.t.succ.length x.t.succ.length) := fun F => by unfold ldH; rw [c6]
  have d7 : ∀ F : Value → Prop, ldH h2 ⟨T, 7, none⟩ F = F (.slice (some ⟨wb, 0, none⟩) x.t.word.length x.t.word.length) := fun F => by unfold ldH; rw [c7]
  try simp +decide only [nilC, bsx, Nat.reduceAdd, Int.reduceLE, Int.reduceLT, Int.reduceToNat, rsx, g_s, g_s_ne, RunS.al H2, d5, d6, d7]
  refine callV_fn (fWord_call H2 fun h3 o3 => ?_)
  have H3 := RunS.old H2 o3
  have HR3 := HR.old o3
  obtain ⟨c5, c6, c7⟩ := hQ h3 _ HR3.drop.drop.drop
  try simp +decide only [nilC, bsx, Nat.reduceAdd, Int.reduceLE, Int.reduceLT, Int.reduceToNat, rsx, g_s, g_s_ne, RunS.al H3, c5, c6, c7]
  refine callV_fn (wPtr_call (B.g 3) ?_)
  try simp +decide only [nilC, bsx, Nat.reduceAdd, Int.reduceLE, Int.reduceLT, Int.reduceToNat, rsx, g_s, g_s_ne, RunS.al H3, c5, c6, c7]
  refine ⟨r0, by omega, ?_⟩
  have hu : ∀ l : List Int, (uvs l).length = l.length := uvs_len
  have us : ∀ (l : List Int) (i : Nat) (v : Int), (uvs l).set i (.int .u64 v) = uvs (l.set i v) := fun l i v => by unfold uvs; rw [List.map_set]
  refine st_nat HR3 (by rw [hu]; omega) trivial fun h4 H4 => ?_
  refine ⟨r0, by omega, ?_⟩
  rw [rot3, us] at H4
  refine st_nat H4 (by rw [hu]; omega) trivial fun h5 H5 => ?_
  refine ⟨r0, by omega, ?_⟩
  rw [← rot3, us, star_left] at H5
  refine st_nat H5 (by rw [hu]; omega) trivial fun h6 H6 => ?_
  rw [star_left, us] at H6
  have H7 := re h6 _ _ _ (by simp) (by simp) (by simp) (mem_set_all TB.pr (B.g 2)) (mem_set_all TB.su (wptr_U _)) (mem_set_all TB.wo (B.g 3)) H6
  try simp +decide only [nilC, bsx, Nat.reduceAdd, Int.reduceLE, Int.reduceLT, Int.reduceToNat, rsx, g_s, g_s_ne, RunS.al H7]
  refine ifB_dec (fun c => ?_) (fun c => ?_)
  · have c' : (s64 (x.f.g 1)).toNat = 0 := by omega
    rw [if_pos c'] at k
    exact callV_fn (rPop H7 Args.none (by omega) fun h8 H8 => k h8 (RunS.drp H8))
  · have c' : ¬ (s64 (x.f.g 1)).toNat = 0 := by omega
    rw [if_neg c'] at k
    have ef : (x.setPl (x.t.pred.set (s64 (x.f.g 1)).toNat (x.f.g 2)) (x.t.succ.set (s64 (x.f.g 1)).toNat (wptr (x.f.g 3))) (x.t.word.set (s64 (x.f.g 1)).toNat (x.f.g 3))).f = x.f := rfl
    try simp only [nilC, bsx, Nat.reduceAdd, Int.reduceLE, Int.reduceLT, Int.reduceToNat, ef]
    exact RunS.stR (i := 1) H7 rfl (u64_U _) fun h8 H8 => RunS.stP H8 fun h9 H9 => k h9 (RunS.drp (RunS.none H9))
end
end
section
open Mod
theorem s64_sm {n : Int} (h0 : 0 ≤ n) (h1 : n < 1000) : s64 n = n := by unfold s64; omega
section
variable {K : Value → Heap → Prop} {h : Heap} {M T b o N : Nat} {tv : Value} {fo : Option (Nat × Nat)} {x : Run} {R : Hp}
theorem RowOk.same {y : Run} {r : Int} (H : RowOk x r) (e : y.t.pred = x.t.pred ∧ y.t.succ = x.t.succ ∧ y.t.word = x.t.word) : RowOk y r := by
  obtain ⟨h1, h2, h3, h4⟩ := H
  exact ⟨by rw [e.1]; exact h1, by rw [e.1, e.2.1]; exact h2, by rw [e.1, e.2.2]; exact h3, by rw [e.1]; exact h4⟩
theorem fpTake_call (H : Sat h (RunS M T tv (some (b, o)) x R)) {w : Int} (hw : U w) (hr : RowOk x (x.f.g 1)) (k : ∀ h', Sat h' (RunS M T tv none (fTake x w) R) → K (.tuple #[]) h') :
    CallH Tryz.prog 132 #[rV M T b o, .int .u64 w] h K := by
  refine call132 ?_
  unfold F132 g132 cf bd lP nP
  have B := RunS.fB H
  unfold fTake at k
  dsimp only at k
  have H1 := RunS.new H (.cells #[mP M, mP T, fP b o] 143); generalize h.push (.cells #[mP M, mP T, fP b o] 143) = h1 at *; generalize h.size = N at *
  try simp +decide only [nilC, bsx, Nat.reduceAdd, Int.reduceLE, Int.reduceLT, Int.reduceToNat, rsx, g_s, g_s_ne, RunS.al H1]
  refine RunS.stR (i := 3) H1 rfl hw fun h2 H2 => ?_
  try simp +decide only [nilC, bsx, Nat.reduceAdd, Int.reduceLE, Int.reduceLT, Int.reduceToNat, rsx, g_s, g_s_ne, RunS.al H2]
  refine callV_fn (fWord_call H2 fun h3 o3 => ?_)
  have H3 := RunS.old H2 o3
  try simp +decide only [nilC, bsx, Nat.reduceAdd, Int.reduceLE, Int.reduceLT, Int.reduceToNat, rsx, g_s, g_s_ne, RunS.al H3, B.len]
  refine callV_fn (wMark_call hw ?_)
  try simp +decide only [nilC, bsx, Nat.reduceAdd, Int.reduceLE, Int.reduceLT, Int.reduceToNat, rsx, g_s, g_s_ne, RunS.al H3]
  refine ifB_mk (fun c => ?_) (fun c => ?_)
  · rw [if_pos c] at k
    exact RunS.stP H3 fun h4 H4 => k h4 (RunS.drp (RunS.none H4))
  rw [if_neg (by rw [c]; simp)] at k
  refine callV_fn (fWord_call H3 fun h4 o4 => ?_)
  have H4 := RunS.old H3 o4
  try simp +decide only [nilC, bsx, Nat.reduceAdd, Int.reduceLE, Int.reduceLT, Int.reduceToNat, rsx, g_s, g_s_ne, RunS.al H4, B.len]
  refine callV_fn (wPtr_call hw ?_)
  try simp +decide only [nilC, bsx, Nat.reduceAdd, Int.reduceLE, Int.reduceLT, Int.reduceToNat, rsx, g_s, g_s_ne, RunS.al H4]
  refine ifB_dec (fun c => ?_) (fun c => ?_)
  · rw [if_pos c] at k
    have hr2 : RowOk (x.s 3 w) ((x.s 3 w).f.g 1) := by
      rw [f_s, g_s_ne _ (by decide)]
      exact hr.same ⟨rfl, rfl, rfl⟩
    exact callV_fn (fSettle_call H4 hr2 fun h5 H5 => k h5 (RunS.drp H5))
  · rw [if_neg c] at k
    exact RunS.stP H4 fun h5 H5 => k h5 (RunS.drp (RunS.none H5))
theorem fBegin_call (H : Sat h (RunS M T tv (some (b, o)) x R)) (k : ∀ h', Sat h' (RunS M T tv none (((x.s 2 1).s 1 (u64 (x.m.p.c.level - 1))).pc 1) R) → K (.tuple #[]) h') :
    CallH Tryz.prog 128 #[rV M T b o] h K := by
  refine call128 ?_
  unfold F128 g128 cf bd lP nP
  have P := RunS.pl H
  have H1 := RunS.new H (.cells #[mP M, mP T, fP b o] 143); generalize h.push (.cells #[mP M, mP T, fP b o] 143) = h1 at *; generalize h.size = N at *
  try simp +decide only [nilC, bsx, Nat.reduceAdd, Int.reduceLE, Int.reduceLT, Int.reduceToNat, rsx, g_s, g_s_ne, RunS.al H1]
  refine RunS.stR (i := 2) H1 rfl (U.lit rfl) fun h2 H2 => ?_
  try simp +decide only [nilC, bsx, Nat.reduceAdd, Int.reduceLE, Int.reduceLT, Int.reduceToNat, rsx, g_s, g_s_ne, RunS.al H2]
  refine callV_fn (rPlan H2 fun h3 H3 => pl15 ?_)
  try simp +decide only [nilC, bsx, Nat.reduceAdd, Int.reduceLE, Int.reduceLT, Int.reduceToNat, rsx, g_s, g_s_ne, RunS.al H3]
  refine callV_fn (plConf_call fun h4 o4 => cf7 ?_)
  have H4 := RunS.old H3 o4
  try simp +decide only [nilC, bsx, Nat.reduceAdd, Int.reduceLE, Int.reduceLT, Int.reduceToNat, rsx, g_s, g_s_ne, RunS.al H4]
  refine RunS.stR (i := 1) H4 rfl (u64_U _) fun h5 H5 => ?_
  try simp +decide only [nilC, bsx, Nat.reduceAdd, Int.reduceLE, Int.reduceLT, Int.reduceToNat, rsx, g_s, g_s_ne, RunS.al H5]
  exact RunS.stP H5 fun h6 H6 => k h6 (RunS.drp (RunS.none H6))
theorem fLook_call (H : Sat h (RunS M T tv (some (b, o)) x R)) (O : Ok x) (hr : RowOk x (x.f.g 1)) (k : ∀ h', Sat h' (RunS M T tv none (fLook x) R) → K (.tuple #[]) h') :
    CallH Tryz.prog 134 #[rV M T b o] h K := by
  refine call134 ?_
  unfold F134 g134 cf ce bd lP lI nP
  have B := RunS.fB H
  have P := RunS.pl H
  have hrr : 0 ≤ s64 (x.f.g 1) ∧ s64 (x.f.g 1) < 1000 := ⟨hr.r.1, by have := hr.r.2; have := hr.e3; omega⟩
  have hr6 : s64 (x.f.g 1) < 6 := by have := hr.r.2; have := hr.e3; omega
  unfold fLook at k
  dsimp only at k
  have H1 := RunS.new H (.cells #[mP M, mP T, fP b o] 143); generalize h.push (.cells #[mP M, mP T, fP b o] 143) = h1 at *; generalize h.size = N at *
  try simp +decide only [nilC, bsx, Nat.reduceAdd, Int.reduceLE, Int.reduceLT, Int.reduceToNat, rsx, g_s, g_s_ne, RunS.al H1]
  refine callV_fn (fWord_call H1 fun h2 o2 => ?_)
  have H2 := RunS.old H1 o2
  try simp +decide only [nilC, bsx, Nat.reduceAdd, Int.reduceLE, Int.reduceLT, Int.reduceToNat, rsx, g_s, g_s_ne, RunS.al H2]
  refine callV_fn (wPtr_call (B.g 3) ?_)
  try simp +decide only [nilC, bsx, Nat.reduceAdd, Int.reduceLE, Int.reduceLT, Int.reduceToNat, rsx, g_s, g_s_ne, RunS.al H2]
  refine ifB_dec (fun c => ?_) (fun c => ?_)
  · rw [if_pos c] at k
    refine callV_fn (rPlanO H2 fun h3 o3 => pl15 ?_)
    have H3 := RunS.old H2 o3
    try simp +decide only [nilC, bsx, Nat.reduceAdd, Int.reduceLE, Int.reduceLT, Int.reduceToNat, rsx, g_s, g_s_ne, RunS.al H3]
    refine callV_fn (fRow_call H3 fun h4 o4 => ?_)
    have H4 := RunS.old H3 o4
    try simp +decide only [nilC, bsx, Nat.reduceAdd, Int.reduceLE, Int.reduceLT, Int.reduceToNat, rsx, g_s, g_s_ne, RunS.al H4]
    rw [s64_sm (n := 2 * s64 (x.f.g 1)) (by omega) (by omega), s64_sm (n := 2 * s64 (x.f.g 1) + 1) (by omega) (by omega)]
    refine callV_fn (plHaz_call P O.id ⟨by omega, by omega⟩ fun h5 o5 => ?_)
    have H5 := RunS.old H4 o5
    try simp +decide only [nilC, bsx, Nat.reduceAdd, Int.reduceLE, Int.reduceLT, Int.reduceToNat, rsx, g_s, g_s_ne, RunS.al H5]
    refine callV_fn (rStore H5 (haz_iN P _ _) (wptr_U _) O.st fun h6 H6 => ?_)
    exact RunS.stP H6 fun h7 H7 => k h7 (RunS.drp (RunS.none H7))
  rw [if_neg c] at k
  refine ifB_dec (fun c => ?_) (fun c => ?_)
  · rw [if_pos c] at k
    refine callV_fn (fLink_call H2 hrr fun h3 o3 => ?_)
    have H3 := RunS.old H2 o3
    try simp +decide only [nilC, bsx, Nat.reduceAdd, Int.reduceLE, Int.reduceLT, Int.reduceToNat, rsx, g_s, g_s_ne, RunS.al H3]
    refine callV_fn (rLoad H3 (node_iN P _ _) O.st fun h4 H4 u4 => ?_)
    try simp +decide only [nilC, bsx, Nat.reduceAdd, Int.reduceLE, Int.reduceLT, Int.reduceToNat, rsx, g_s, g_s_ne, RunS.al H4]
    refine ifB_mk (fun c2 => ?_) (fun c2 => ?_)
    · rw [if_pos (by simpa using c2)] at k
      exact callV_fn (fpTake_call H4 u4 (hr.same ⟨rfl, rfl, rfl⟩) fun h5 H5 => k h5 (RunS.drp H5))
    · rw [if_neg (by simpa using c2)] at k
      exact RunS.stP H4 fun h5 H5 => k h5 (RunS.drp (RunS.none H5))
  rw [if_neg c] at k
  refine ifB_dec (fun c => ?_) (fun c => ?_)
  · rw [if_pos c] at k
    refine callV_fn (fLink_call H2 hrr fun h3 o3 => ?_)
    have H3 := RunS.old H2 o3
    try simp +decide only [nilC, bsx, Nat.reduceAdd, Int.reduceLE, Int.reduceLT, Int.reduceToNat, rsx, g_s, g_s_ne, RunS.al H3]
    refine callV_fn (rLoad H3 (node_iN P _ _) O.st fun h4 H4 u4 => ?_)
    try simp +decide only [nilC, bsx, Nat.reduceAdd, Int.reduceLE, Int.reduceLT, Int.reduceToNat, rsx, g_s, g_s_ne, RunS.al H4]
    refine RunS.stR (i := 4) H4 rfl u4 fun h5 H5 => RunS.stP H5 fun h6 H6 => ?_
    try simp +decide only [nilC, bsx, Nat.reduceAdd, Int.reduceLE, Int.reduceLT, Int.reduceToNat, rsx, g_s, g_s_ne, RunS.al H6, B.len]
    refine callV_fn (wMark_call u4 ?_)
    try simp +decide only [nilC, bsx, Nat.reduceAdd, Int.reduceLE, Int.reduceLT, Int.reduceToNat, rsx, g_s, g_s_ne, RunS.al H6]
    refine ifB_mk (fun c2 => ?_) (fun c2 => ?_)
    · rw [if_pos c2] at k
      exact RunS.stP H6 fun h7 H7 => k h7 (RunS.drp (RunS.none H7))
    · rw [if_neg (by rw [c2]; simp)] at k
      exact k h6 (RunS.drp (RunS.none H6))
  rw [if_neg c] at k
  refine ifB_dec (fun c => ?_) (fun c => ?_)
  · rw [if_pos c] at k
    refine callV_fn (fWord_call H2 fun h3 o3 => ?_)
    have H3 := RunS.old H2 o3
    try simp +decide only [nilC, bsx, Nat.reduceAdd, Int.reduceLE, Int.reduceLT, Int.reduceToNat, rsx, g_s, g_s_ne, RunS.al H3]
    refine callV_fn (wPtr_call (B.g 4) ?_)
    try simp +decide only [nilC, bsx, Nat.reduceAdd, Int.reduceLE, Int.reduceLT, Int.reduceToNat, rsx, g_s, g_s_ne, RunS.al H3]
    refine callV_fn (wNext_call (B.g 3) ?_)
    try simp +decide only [nilC, bsx, Nat.reduceAdd, Int.reduceLE, Int.reduceLT, Int.reduceToNat, rsx, g_s, g_s_ne, RunS.al H3]
    refine callV_fn (fLink_call H3 hrr fun h4 o4 => ?_)
    have H4 := RunS.old H3 o4
    try simp +decide only [nilC, bsx, Nat.reduceAdd, Int.reduceLE, Int.reduceLT, Int.reduceToNat, rsx, g_s, g_s_ne, RunS.al H4]
    refine callV_fn (rCas H4 (node_iN P _ _) wNext_U O.st fun h5 H5 => ?_)
    try simp +decide only [nilC, bsx, Nat.reduceAdd, Int.reduceLE, Int.reduceLT, Int.reduceToNat, rsx, g_s, g_s_ne, RunS.al H5]
    refine ifB_mk (fun c2 => ?_) (fun c2 => ?_)
    · rw [if_neg (by simpa using c2)] at k
      exact RunS.stP H5 fun h6 H6 => k h6 (RunS.drp (RunS.none H6))
    · rw [if_pos (by simpa using c2)] at k
      exact callV_fn (fpTake_call H5 wNext_U (hr.same ⟨rfl, rfl, rfl⟩) fun h6 H6 => k h6 (RunS.drp H6))
  rw [if_neg c] at k
  refine ifB_dec (fun c => ?_) (fun c => ?_)
  · rw [if_pos c] at k
    refine callV_fn (rPlanO H2 fun h3 o3 => pl15 ?_)
    have H3 := RunS.old H2 o3
    try simp +decide only [nilC, bsx, Nat.reduceAdd, Int.reduceLE, Int.reduceLT, Int.reduceToNat, rsx, g_s, g_s_ne, RunS.al H3]
    have es : s64 (wptr (x.f.g 3)) = wptr (x.f.g 3) := by have := wptr_rng (x.f.g 3); unfold s64; omega
    try rw [es]
    refine callV_fn (plNode_call P (wptr_iN _) (by decide) fun h4 o4 => ?_)
    have H4 := RunS.old H3 o4
    try simp +decide only [nilC, bsx, Nat.reduceAdd, Int.reduceLE, Int.reduceLT, Int.reduceToNat, rsx, g_s, g_s_ne, RunS.al H4]
    refine callV_fn (rLoad H4 (node_iN P _ _) O.st fun h5 H5 u5 => ?_)
    try simp +decide only [nilC, bsx, Nat.reduceAdd, Int.reduceLE, Int.reduceLT, Int.reduceToNat, rsx, g_s, g_s_ne, RunS.al H5]
    refine ifB_dec (fun c2 => ?_) (fun c2 => ?_)
    · rw [if_pos c2] at k
      exact callV_fn (fSettle_call H5 (hr.same ⟨rfl, rfl, rfl⟩) fun h6 H6 => k h6 (RunS.drp H6))
    · rw [if_neg c2] at k
      exact RunS.stR (i := 2) H5 rfl (wptr_U _) fun h6 H6 => RunS.stP H6 fun h7 H7 => k h7 (RunS.drp (RunS.none H7))
  rw [if_neg c] at k
  exact k h2 (RunS.drp (RunS.none H2))
theorem fStep_call (H : Sat h (RunS M T tv (some (b, o)) x R)) (O : Ok x) (hr : x.f.pc ≠ 0 → RowOk x (x.f.g 1)) (k : ∀ h', Sat h' (RunS M T tv none (fStep x) R) → K (.tuple #[]) h') :
    CallH Tryz.prog 69 #[rV M T b o] h K := by
  refine call69 ?_
  unfold F69 g69 cf ce bd lP lI nP
  have B := RunS.fB H
  have P := RunS.pl H
  unfold fStep at k
  dsimp only at k
  have H1 := RunS.new H (.cells #[mP M, mP T, fP b o] 143); generalize h.push (.cells #[mP M, mP T, fP b o] 143) = h1 at *; generalize h.size = N at *
  try simp +decide only [nilC, bsx, Nat.reduceAdd, Int.reduceLE, Int.reduceLT, Int.reduceToNat, rsx, g_s, g_s_ne, RunS.al H1]
  refine ifB_dec (fun c => ?_) (fun c => ?_)
  · rw [if_pos c] at k
    exact callV_fn (fBegin_call H1 fun h2 H2 => k h2 (RunS.drp H2))
  rw [if_neg c] at k
  have hr := hr c
  have hrr : 0 ≤ s64 (x.f.g 1) ∧ s64 (x.f.g 1) < 1000 := ⟨hr.r.1, by have := hr.r.2; have := hr.e3; omega⟩
  have hr6 : s64 (x.f.g 1) < 6 := by have := hr.r.2; have := hr.e3; omega
  refine ifB_dec (fun c => ?_) (fun c => ?_)
  · rw [if_pos c] at k
    refine callV_fn (rPlanO H1 fun h3 o3 => pl15 ?_)
    have H3 := RunS.old H1 o3
    try simp +decide only [nilC, bsx, Nat.reduceAdd, Int.reduceLE, Int.reduceLT, Int.reduceToNat, rsx, g_s, g_s_ne, RunS.al H3]
    refine callV_fn (fRow_call H3 fun h4 o4 => ?_)
    have H4 := RunS.old H3 o4
    try simp +decide only [nilC, bsx, Nat.reduceAdd, Int.reduceLE, Int.reduceLT, Int.reduceToNat, rsx, g_s, g_s_ne, RunS.al H4]
    rw [s64_sm (n := 2 * s64 (x.f.g 1)) (by omega) (by omega)]
    refine callV_fn (plHaz_call P O.id ⟨by omega, by omega⟩ fun h5 o5 => ?_)
    have H5 := RunS.old H4 o5
    try simp +decide only [nilC, bsx, Nat.reduceAdd, Int.reduceLE, Int.reduceLT, Int.reduceToNat, rsx, g_s, g_s_ne, RunS.al H5]
    refine callV_fn (rStore H5 (haz_iN P _ _) (B.g 2) O.st fun h6 H6 => ?_)
    exact RunS.stP H6 fun h7 H7 => k h7 (RunS.drp (RunS.none H7))
  rw [if_neg c] at k
  refine ifB_dec (fun c => ?_) (fun c => ?_)
  · rw [if_pos c] at k
    refine callV_fn (fLink_call H1 hrr fun h3 o3 => ?_)
    have H3 := RunS.old H1 o3
    try simp +decide only [nilC, bsx, Nat.reduceAdd, Int.reduceLE, Int.reduceLT, Int.reduceToNat, rsx, g_s, g_s_ne, RunS.al H3]
    refine callV_fn (rLoad H3 (node_iN P _ _) O.st fun h4 H4 u4 => ?_)
    try simp +decide only [nilC, bsx, Nat.reduceAdd, Int.reduceLE, Int.reduceLT, Int.reduceToNat, rsx, g_s, g_s_ne, RunS.al H4]
    exact callV_fn (fpTake_call H4 u4 (hr.same ⟨rfl, rfl, rfl⟩) fun h5 H5 => k h5 (RunS.drp H5))
  rw [if_neg c] at k
  refine ifB_dec (fun c => ?_) (fun c => ?_)
  · rw [if_pos c] at k
    refine callV_fn (rPlanO H1 fun h3 o3 => pl15 ?_)
    have H3 := RunS.old H1 o3
    try simp +decide only [nilC, bsx, Nat.reduceAdd, Int.reduceLE, Int.reduceLT, Int.reduceToNat, rsx, g_s, g_s_ne, RunS.al H3]
    refine callV_fn (plNode_call P (s64_iN _) (by decide) fun h4 o4 => ?_)
    have H4 := RunS.old H3 o4
    try simp +decide only [nilC, bsx, Nat.reduceAdd, Int.reduceLE, Int.reduceLT, Int.reduceToNat, rsx, g_s, g_s_ne, RunS.al H4]
    refine callV_fn (rLoad H4 (node_iN P _ _) O.st fun h5 H5 u5 => ?_)
    try simp +decide only [nilC, bsx, Nat.reduceAdd, Int.reduceLE, Int.reduceLT, Int.reduceToNat, rsx, g_s, g_s_ne, RunS.al H5]
    exact RunS.stP H5 fun h7 H7 => k h7 (RunS.drp (RunS.none H7))
  rw [if_neg c] at k
  exact callV_fn (fLook_call H1 O hr fun h2 H2 => k h2 (RunS.drp H2))
def FOk (x : Run) : Prop := x.f.fn = 20 → x.f.pc ≠ 0 → RowOk x (x.f.g 1)
theorem findDo_call (H : Sat h (RunS M T tv fo x R)) (O : Ok x) (hf : FOk x) (k : ∀ h', Sat h' (RunS M T tv none (findDo x) R) → K (.tuple #[]) h') :
    CallH Tryz.prog 43 #[mP M, mP T] h K := by
  refine call43 ?_
  unfold F43 cf lI nP
  unfold findDo at k
  refine callV_fn (rTop H (fun e => ?_) fun b o hne _ H1 => ?_)
  · rw [if_pos e] at k
    try simp only [nilC, bsx, Nat.reduceAdd, Int.reduceLE, Int.reduceLT, Int.reduceToNat]
    refine ⟨fun vs h' => (∃ w, vs = [.bool true, w]) ∧ h' = h, ⟨⟨_, rfl⟩, rfl⟩, ?_⟩
    rintro v4 v5 g6 h7 ⟨⟨w, e⟩, rfl⟩
    cases e
    try simp only [nilC, bsx, Nat.reduceAdd, Int.reduceLE, Int.reduceLT, Int.reduceToNat]
    exact k _ (RunS.none H)
  · rw [if_neg hne] at k
    try simp only [nilC, bsx, Nat.reduceAdd, Int.reduceLE, Int.reduceLT, Int.reduceToNat]
    refine ⟨fun vs h' => (∃ w, vs = [.bool false, w]) ∧ h' = h, ⟨⟨_, rfl⟩, rfl⟩, ?_⟩
    rintro v4 v5 g6 h7 ⟨⟨w, e⟩, rfl⟩
    cases e
    try simp +decide only [nilC, bsx, Nat.reduceAdd, Int.reduceLE, Int.reduceLT, Int.reduceToNat, rsx, g_s, g_s_ne, RunS.r H1]
    refine ifB_dec (fun c => ?_) (fun c => ?_)
    · rw [if_pos c] at k
      exact callV_fn (fStep_call H1 O (hf c) k)
    rw [if_neg c] at k
    exact callV_fn (hazardDo_call H1 O k)
end
end
section
open Mod
theorem wrap32_eq (n : Int) : IntKind.wrap .u32 n = Mod.u32 n := wrap32_mod n
structure RL (x : Run) : Prop where
  e1 : x.t.succ.length = x.t.pred.length
  e2 : x.t.word.length = x.t.pred.length
  e0 : 1 ≤ x.t.pred.length
  e3 : x.t.pred.length ≤ 6
theorem plNode_s {p : Pl} (B : PlB p) {n r : Int} (hr : iN r) : p.node n (s64 (5 + r)) = p.node n (5 + r) := by
  have h2 := B.wi
  by_cases c : 5 + r < 9223372036854775808
  · congr 1; unfold iN at hr; unfold s64; omega
  · unfold iN at hr
    have e : s64 (5 + r) < 0 := by unfold s64; omega
    unfold Pl.node
    rw [if_neg (by omega), if_neg (by omega)]
section
variable {K : Value → Heap → Prop} {h : Heap} {M T b o N : Nat} {tv : Value} {fo : Option (Nat × Nat)} {x : Run} {R : Hp}
structure RowsAt (h : Heap) (T pb sb wb : Nat) (t : Thr) : Prop where
  c5 : cellAt h ⟨T, 5, Option.none⟩ = some (.slice (some ⟨pb, 0, Option.none⟩) t.pred.length t.pred.length)
  c6 : cellAt h ⟨T, 6, Option.none⟩ = some (.slice (some ⟨sb, 0, Option.none⟩) t.pred.length t.pred.length)
  c7 : cellAt h ⟨T, 7, Option.none⟩ = some (.slice (some ⟨wb, 0, Option.none⟩) t.pred.length t.pred.length)
  p : ∀ i : Nat, i < t.pred.length → cellAt h ⟨pb, i, Option.none⟩ = some (.int .u64 (t.pred.getD i 0))
  s : ∀ i : Nat, i < t.pred.length → cellAt h ⟨sb, i, Option.none⟩ = some (.int .u64 (t.succ.getD i 0))
  w : ∀ i : Nat, i < t.pred.length → cellAt h ⟨wb, i, Option.none⟩ = some (.int .u64 (t.word.getD i 0))
theorem cell_keep {h h' : Heap} {a : Addr} {v : Value} (e : cellAt h a = some v) (o : Old h.size h h') : cellAt h' a = some v := (cellAt_congr (o.2 _ (cellAt_lt e))).trans e
theorem RowsAt.old {h h' : Heap} {T pb sb wb : Nat} {t : Thr} (H : RowsAt h T pb sb wb t) (o : Old h.size h h') : RowsAt h' T pb sb wb t :=
  ⟨cell_keep H.c5 o, cell_keep H.c6 o, cell_keep H.c7 o, fun i hi => cell_keep (H.p i hi) o, fun i hi => cell_keep (H.s i hi) o, fun i hi => cell_keep (H.w i hi) o⟩
theorem ld_of {h : Heap} {a : Addr} {v : Value} (e : cellAt h a = some v) (F : Value → Prop) : ldH h a F = F v := by unfold ldH; rw [e]
theorem RowsAt.f {h : Heap} {T pb sb wb : Nat} {t : Thr} (H : RowsAt h T pb sb wb t) : (∀ F, ldH h ⟨T, 5, Option.none⟩ F = F (.slice (some ⟨pb, 0, Option.none⟩) t.pred.length t.pred.length)) ∧ (∀ F, ldH h ⟨T, 6, Option.none⟩ F = F (.slice (some ⟨sb, 0, Option.none⟩) t.pred.length t.pred.length)) ∧ (∀ F, ldH h ⟨T, 7, Option.none⟩ F = F (.slice (some ⟨wb, 0, Option.none⟩) t.pred.length t.pred.length)) ∧
    cellAt h ⟨T, 5, Option.none⟩ = some (.slice (some ⟨pb, 0, Option.none⟩) t.pred.length t.pred.length) ∧ cellAt h ⟨T, 6, Option.none⟩ = some (.slice (some ⟨sb, 0, Option.none⟩) t.pred.length t.pred.length) ∧ cellAt h ⟨T, 7, Option.none⟩ = some (.slice (some ⟨wb, 0, Option.none⟩) t.pred.length t.pred.length) :=
  ⟨ld_of H.c5, ld_of H.c6, ld_of H.c7, H.c5, H.c6, H.c7⟩
theorem RowsAt.g {h : Heap} {T pb sb wb : Nat} {t : Thr} (H : RowsAt h T pb sb wb t) {i : Nat} (hi : i < t.pred.length) : (∀ F, ldH h ⟨pb, i, Option.none⟩ F = F (.int .u64 (t.pred.getD i 0))) ∧ (∀ F, ldH h ⟨sb, i, Option.none⟩ F = F (.int .u64 (t.succ.getD i 0))) ∧ (∀ F, ldH h ⟨wb, i, Option.none⟩ F = F (.int .u64 (t.word.getD i 0))) ∧
    cellAt h ⟨pb, i, Option.none⟩ = some (.int .u64 (t.pred.getD i 0)) ∧ cellAt h ⟨sb, i, Option.none⟩ = some (.int .u64 (t.succ.getD i 0)) ∧ cellAt h ⟨wb, i, Option.none⟩ = some (.int .u64 (t.word.getD i 0)) :=
  ⟨ld_of (H.p i hi), ld_of (H.s i hi), ld_of (H.w i hi), H.p i hi, H.s i hi, H.w i hi⟩
theorem RunS.rows (H : Sat h (RunS M T tv fo x R)) (L : RL x) : ∃ pb sb wb : Nat, RowsAt h T pb sb wb x.t := by
  obtain ⟨pb, sb, wb, Q, hQ, HR, re⟩ := runRows H
  obtain ⟨c5, c6, c7⟩ := hQ h _ HR.drop.drop.drop
  have lc : ∀ {B : Nat} {l : List Int} {t : TypeId} (_ : h[B]? = some (.cells (uvs l).toArray t)) (i : Nat), i < l.length → cellAt h ⟨B, i, Option.none⟩ = some (.int .u64 (l.getD i 0)) := by
    intro B l t e i hi
    have := uvs_cell e (i := (i : Int)) (by omega) (by omega)
    rw [Int.toNat_natCast] at this
    exact this
  rw [L.e1] at c6
  rw [L.e2] at c7
  exact ⟨pb, sb, wb, c5, c6, c7, fun i hi => lc HR.at i hi, fun i hi => lc HR.drop.at i (by rw [L.e1]; exact hi), fun i hi => lc HR.drop.drop.at i (by rw [L.e2]; exact hi)⟩
theorem rLevel (H : Sat h (RunS M T tv fo x R)) (us : x.m.used < 1099511627776) {K : Value → Heap → Prop}
    {q : Nat} {R' : Hp} (HF : Sat h (fdS q x.m.b x.m.used * R')) (re : ∀ h' u, Sat h' (fdS q x.m.b u * R') → Sat h' (RunS M T tv fo { x with m := Mac.feed x.m u } R)) (hn : 1 ≤ x.m.p.c.level ∧ x.m.p.c.level ≤ 6)
    (k : ∀ h', Sat h' (RunS M T tv fo { x with m := (x.m.lvl x.m.p.c.level).2 } R) → K (.int .i64 (x.m.lvl x.m.p.c.level).1) h') :
    CallH Tryz.prog 140 #[mP q, .int .i64 x.m.p.c.level] h K := by
  refine fdLevel_call HF us hn fun h2 H2 => ?_
  have H3 := re _ _ H2
  have e : x.m.lvl x.m.p.c.level = (lev (drawn x.m.b x.m.used) x.m.p.c.level.toNat 0, Mac.feed x.m (x.m.used + 1)) := by
    unfold Mac.lvl Mac.take
    first
      | rfl
      | (rw [if_neg (by omega)]; rfl)
  rw [e] at k
  exact k h2 H3
theorem suCall_call (H : Sat h (RunS M T tv (some (b, o)) x R)) {pc fn : Int} {a : Option Addr} {l c : Nat} {rs : List Int} (A : Args R a l c rs) (hl : l ≤ 10) (hd : x.t.fr.length < 1073741823)
    (k : ∀ h' b' o', ¬ (b' = b ∧ o' = o) → Stale h' (some (b, o)) (x.pc pc).f → Sat h' (RunS M T tv (some (b', o')) (x.call pc fn rs) R) → K (.tuple #[]) h') :
    CallH Tryz.prog 135 #[rV M T b o, .int .i64 pc, .int .i64 fn, .slice a l c] h K := by
  refine call135 ?_
  unfold F135 g135 cf lP nP
  have H1 := RunS.new H (.cells #[mP M, mP T, fP b o] 96); generalize h.push (.cells #[mP M, mP T, fP b o] 96) = h1 at *; generalize h.size = N at *
  try simp only [nilC, bsx, Nat.reduceAdd, Int.reduceLE, Int.reduceLT, Int.reduceToNat, RunS.l H1]
  refine RunS.stP H1 fun h2 H2 => ?_
  try simp only [nilC, bsx, Nat.reduceAdd, Int.reduceLE, Int.reduceLT, Int.reduceToNat, RunS.l H2]
  refine callV_fn (rPush H2 A.skip hl (by show (x.t.fr.dropLast ++ [_]).length < _; simp; omega) fun h3 b' o' h1 h2 H3 => k h3 b' o' (fun e => h1 b o rfl e) h2 (RunS.drp H3))
theorem suCallN (H : Sat h (RunS M T tv (some (b, o)) x R)) {pc fn : Int} {l : Nat} (rs : List Int) {ty : TypeId} (hr : rs.length = l) (hu : ∀ v ∈ rs, U v) (hl : Nat.ble l 10 = true) (hd : x.t.fr.length < 1073741823)
    (k : ∀ h' b' o', ¬ (b' = b ∧ o' = o) → Stale h' (some (b, o)) (x.pc pc).f → Sat h' (RunS M T tv (some (b', o')) (x.call pc fn rs) R) → K (.tuple #[]) h') :
    CallH Tryz.prog 135 #[rV M T b o, .int .i64 pc, .int .i64 fn, .slice (some ⟨h.size, 0, none⟩) l l] (h.push (.cells (uvs rs).toArray ty)) K :=
  suCall_call (RunS.new H (.cells (uvs rs).toArray ty)) (Args.mk' hr hu) (Nat.le_of_ble_eq_true hl) hd fun h' b' o' h1 h2 H' => k h' b' o' h1 h2 (RunS.drp H')
theorem suAt_call (H : Sat h (RunS M T tv fo x R)) {n f : Int} (hf : iN f) (k : ∀ h', Old h.size h h' → K (.int .i64 (x.na n f)) h') :
    CallH Tryz.prog 141 #[rV M T b o, .int .u64 n, .int .i64 f] h K := by
  refine call141 ?_
  unfold F141 g141 cf lP
  have oo : Old h.size h (h.push (.cells #[mP M, mP T, fP b o] 96)) := (Old.refl _ _).push _ (Nat.le_refl _)
  have s1 := oo.1
  have H1 := RunS.new H (.cells #[mP M, mP T, fP b o] 96); generalize h.push (.cells #[mP M, mP T, fP b o] 96) = h1 at *; generalize h.size = N at *
  try simp only [nilC, bsx, Nat.reduceAdd, Int.reduceLE, Int.reduceLT, Int.reduceToNat, RunS.l H1]
  refine callV_fn (rPlanO H1 fun h2 o2 => pl15 ?_)
  refine callV_fn (plNode_call (RunS.pl H) (s64_iN _) hf fun h3 o3 => ?_)
  try simp only [nilC, bsx, Nat.reduceAdd, Int.reduceLE, Int.reduceLT, Int.reduceToNat]
  exact k h3 (oo.trans ((o2.trans (o3.mono o2.1)).mono s1))
theorem suLink_call (H : Sat h (RunS M T tv fo x R)) {n r : Int} (k : ∀ h', Old h.size h h' → K (.int .i64 (x.nlink n r)) h') :
    CallH Tryz.prog 143 #[rV M T b o, .int .u64 n, .int .u64 r] h K := by
  refine call143 ?_
  unfold F143 g143 cf
  have oo : Old h.size h (h.push (.cells #[mP M, mP T, fP b o] 96)) := (Old.refl _ _).push _ (Nat.le_refl _)
  have s1 := oo.1
  have H1 := RunS.new H (.cells #[mP M, mP T, fP b o] 96); generalize h.push (.cells #[mP M, mP T, fP b o] 96) = h1 at *; generalize h.size = N at *
  try simp only [nilC, bsx, Nat.reduceAdd, Int.reduceLE, Int.reduceLT, Int.reduceToNat, RunS.l H1]
  refine callV_fn (suAt_call H1 (s64_iN _) fun h2 o2 => ?_)
  try simp only [nilC, bsx, Nat.reduceAdd, Int.reduceLE, Int.reduceLT, Int.reduceToNat]
  have e : x.na n (s64 (5 + s64 r)) = x.nlink n r := plNode_s (RunS.pl H) (s64_iN _)
  rw [e]
  exact k h2 (oo.trans (o2.mono s1))
theorem suSwing_call (H : Sat h (RunS M T tv fo x R)) {a w t : Int} (ha : iN a) (hw : U w) (hs : x.m.mm.st < 1099511627776) (k : ∀ h', Sat h' (RunS M T tv fo (x.swingA a w t).2 R) → K (.bool (x.swingA a w t).1) h') :
    CallH Tryz.prog 145 #[rV M T b o, .int .i64 a, .int .u64 w, .int .u64 t] h K := by
  refine call145 ?_
  unfold F145 g145 cf ce
  have H1 := RunS.new H (.cells #[mP M, mP T, fP b o] 96); generalize h.push (.cells #[mP M, mP T, fP b o] 96) = h1 at *; generalize h.size = N at *
  try simp only [nilC, bsx, Nat.reduceAdd, Int.reduceLE, Int.reduceLT, Int.reduceToNat, RunS.l H1]
  refine callV_fn (wNext_call hw ?_)
  try simp only [nilC, bsx, Nat.reduceAdd, Int.reduceLE, Int.reduceLT, Int.reduceToNat, RunS.l H1]
  refine callV_fn (rCas H1 ha wNext_U hs fun h3 H3 => ?_)
  try simp only [nilC, bsx, Nat.reduceAdd, Int.reduceLE, Int.reduceLT, Int.reduceToNat]
  exact k h3 (RunS.drp H3)
theorem suEnd_call (H : Sat h (RunS M T tv (some (b, o)) x R)) {k7 k8 k9 : Int} (h7 : U k7) (h8 : U k8) (h9 : U k9) (hd : x.t.fr.length < 1073741823)
    (k : ∀ h' b' o', Sat h' (RunS M T tv (some (b', o')) (x.fin k7 k8 k9) R) → K (.tuple #[]) h') :
    CallH Tryz.prog 137 #[rV M T b o, .int .u64 k7, .int .u64 k8, .int .u64 k9] h K := by
  refine call137 ?_
  unfold F137 g137 cf ce bd lP nP
  have H1 := RunS.new H (.cells #[mP M, mP T, fP b o] 96); generalize h.push (.cells #[mP M, mP T, fP b o] 96) = h1 at *; generalize h.size = N at *
  try simp only [nilC, bsx, Nat.reduceAdd, Int.reduceLE, Int.reduceLT, Int.reduceToNat, RunS.l H1]
  refine RunS.stR (i := 7) H1 rfl h7 fun h2 H2 => ?_
  try simp only [nilC, bsx, Nat.reduceAdd, Int.reduceLE, Int.reduceLT, Int.reduceToNat, RunS.l H2]
  refine RunS.stR (i := 8) H2 rfl h8 fun h3 H3 => ?_
  try simp only [nilC, bsx, Nat.reduceAdd, Int.reduceLE, Int.reduceLT, Int.reduceToNat, RunS.l H3]
  refine RunS.stR (i := 9) H3 rfl h9 fun h4 H4 => ?_
  try simp only [nilC, bsx, Nat.reduceAdd, Int.reduceLE, Int.reduceLT, Int.reduceToNat, RunS.l H4]
  refine callV_fn (suCall_call H4 Args.none (by omega) ?_ fun h5 b' o' h1 h2 H5 => k h5 b' o' (RunS.drp H5))
  have e := List.length_pos_iff.2 (thrS_ne (RunS.thr H))
  show ((((x.t.fr.dropLast ++ [_]).dropLast ++ [_]).dropLast) ++ [_]).length < _
  simp
  omega
theorem suDrop_call (H : Sat h (RunS M T tv fo x R)) {n : Int} (hs : x.m.mm.st < 1099511627776) (k : ∀ h', Sat h' (RunS M T tv fo (x.drop1 n).2 R) → K (.bool (x.drop1 n).1) h') :
    CallH Tryz.prog 148 #[rV M T b o, .int .u64 n] h K := by
  refine call148 ?_
  unfold F148 g148 cf ce
  have P := RunS.pl H
  have H1 := RunS.new H (.cells #[mP M, mP T, fP b o] 96); generalize h.push (.cells #[mP M, mP T, fP b o] 96) = h1 at *; generalize h.size = N at *
  try simp only [nilC, bsx, Nat.reduceAdd, Int.reduceLE, Int.reduceLT, Int.reduceToNat, RunS.l H1]
  refine callV_fn (suAt_call H1 (by decide) fun h2 o2 => ?_)
  have H2 := RunS.old H1 o2
  try simp only [nilC, bsx, Nat.reduceAdd, Int.reduceLE, Int.reduceLT, Int.reduceToNat, RunS.l H2]
  refine callV_fn (rAdd H2 (node_iN P _ _) hs fun h3 H3 u3 => ?_)
  try simp only [nilC, bsx, Nat.reduceAdd, Int.reduceLE, Int.reduceLT, Int.reduceToNat]
  exact k h3 (RunS.drp H3)
theorem suPtr_call {w : Int} (hw : U w) (k : K (.int .u64 (wptr w)) h) : CallH Tryz.prog 147 #[.int .u64 w] h K := by
  refine call147 ?_
  unfold F147 cf
  refine callV_fn (wPtr_call hw ?_)
  try simp only [nilC, bsx, Nat.reduceAdd, Int.reduceLE, Int.reduceLT, Int.reduceToNat]
  exact k
theorem suMark_call {w : Int} (hw : U w) (k : K (.bool (wmark w)) h) : CallH Tryz.prog 146 #[.int .u64 w] h K := by
  refine call146 ?_
  unfold F146 cf
  refine callV_fn (wMark_call hw ?_)
  try simp only [nilC, bsx, Nat.reduceAdd, Int.reduceLE, Int.reduceLT, Int.reduceToNat]
  exact k
end
end
section
open Mod
section
variable {K : Value → Heap → Prop} {h : Heap} {M T b o N : Nat} {tv : Value} {fo : Option (Nat × Nat)} {x : Run} {R : Hp}
theorem RL.at {y : Run} (H : RL x) (e : y.t.pred = x.t.pred ∧ y.t.succ = x.t.succ ∧ y.t.word = x.t.word) : RL y := by
  obtain ⟨h1, h2, h3, h4⟩ := H
  exact ⟨by rw [e.1, e.2.1]; exact h1, by rw [e.1, e.2.2]; exact h2, by rw [e.1]; exact h3, by rw [e.1]; exact h4⟩
theorem RunS.woU (H : Sat h (RunS M T tv fo x R)) (i : Nat) : U (x.t.word.getD i 0) := getD_U (RunS.B H).wo i
theorem used_add (x : Run) (a d : Int) : (x.add a d).2.m.used = x.m.used := by
  show (x.m.add a d).2.used = x.m.used
  unfold Mac.add
  dsimp only
  have := (touch_mm x.m a).2.2.2.1
  split <;> exact this
theorem ordMake_U (a b : Int) : U (ordMake a b) := by unfold ordMake u32; constructor <;> omega
theorem ordPack_U (a : Int) (g : Bool) : U (ordPack a g) := by unfold ordPack u32 b2i; constructor <;> split <;> omega
theorem ordBury_U {w : Int} (h : U w) : U (ordBury w) := by
  obtain ⟨h0, h1⟩ := h
  unfold ordBury
  constructor <;> split <;> omega
theorem ordKey_u {w : Int} (h : U w) : Mod.u64 (ordKey w) = ordKey w := by
  obtain ⟨h0, h1⟩ := h
  unfold ordKey u64; omega
theorem ordKey_U {w : Int} (h : U w) : U (ordKey w) := by
  obtain ⟨h0, h1⟩ := h
  unfold ordKey; constructor <;> omega
theorem ordVal_u (w : Int) : Mod.u64 (ordVal w) = ordVal w := by unfold ordVal u32 u64; omega
theorem ordVal_U (w : Int) : U (ordVal w) := by unfold ordVal u32; constructor <;> omega
theorem siTake_call (H : Sat h (RunS M T tv (some (b, o)) x R)) (O : Ok x) (k : ∀ h', Sat h' (RunS M T tv none (siTake x) R) → K (.tuple #[]) h') :
    CallH Tryz.prog 70 #[rV M T b o] h K := by
  refine call70 ?_
  unfold F70 g70 cf ce bd lP lI nP
  have B := RunS.fB H
  have P := RunS.pl H
  have hd := O.fr
  have r0 := RunS.ret H 0
  unfold siTake at k
  dsimp only at k
  have H1 := RunS.new H (.cells #[mP M, mP T, fP b o] 102); generalize h.push (.cells #[mP M, mP T, fP b o] 102) = h1 at *; generalize h.size = N at *
  try simp +decide only [nilC, bsx, Nat.reduceAdd, Int.reduceLE, Int.reduceLT, Int.reduceToNat, rsx, g_s, g_s_ne, RunS.al H1]
  refine ifB_dec (fun c => ?_) (fun c => ?_)
  · rw [if_pos c] at k
    exact callV_fn (suCall_call H1 Args.none (by omega) (by omega) fun h2 b' o' _ _ H2 => k h2 (RunS.drp (RunS.none H2)))
  rw [if_neg c] at k
  refine ifB_dec (fun c => ?_) (fun c => ?_)
  · rw [if_pos c] at k
    refine RunS.stR (i := 2) H1 rfl r0 fun h2 H2 => ?_
    try simp +decide only [nilC, bsx, Nat.reduceAdd, Int.reduceLE, Int.reduceLT, Int.reduceToNat, rsx, g_s, g_s_ne, RunS.al H2, B.len]
    refine ifB_mk (fun c2 => ?_) (fun c2 => ?_)
    · have c2' : x.ret 0 ≠ 0 := by simpa [Run.ret] using c2
      rw [if_pos c2'] at k
      exact RunS.stP H2 fun h3 H3 => k h3 (RunS.drp (RunS.none H3))
    · have c2' : ¬ x.ret 0 ≠ 0 := by simpa [Run.ret] using c2
      rw [if_neg c2'] at k
      have hfl := frl_s x 2 (x.ret 0)
      refine ⟨fun vs h' => (∃ w, vs = [.bool (decide (x.f.g 5 = 0 ∧ x.t.retired.length > 0)), w]) ∧ Sat h' (RunS M T tv (some (b, o)) (x.s 2 (x.ret 0)) (pt N (.cells #[mP M, mP T, fP b o] 102) * R)), ?_, ?_⟩
      · refine ifB_dec (fun c3 => ?_) (fun c3 => ?_)
        · refine callV_fn (pileLen_call (RunS.thr H2) ?_)
          try simp only [nilC, bsx, Nat.reduceAdd, Int.reduceLE, Int.reduceLT, Int.reduceToNat]
          have e : decide (((x.s 2 (x.ret 0)).t.retired.length : Int) > 0) = decide (x.f.g 5 = 0 ∧ x.t.retired.length > 0) := by
            rw [decide_eq_decide]
            have e2 : (x.s 2 (x.ret 0)).t.retired = x.t.retired := rfl
            rw [e2]
            omega
          rw [e]
          exact ⟨⟨_, rfl⟩, H2⟩
        · exact ⟨⟨_, by rw [decide_eq_false (fun hh => c3 hh.1)]⟩, H2⟩
      rintro v32 v33 g34 h35 ⟨⟨w, e⟩, H3⟩
      cases e
      try simp only [nilC, bsx, Nat.reduceAdd, Int.reduceLE, Int.reduceLT, Int.reduceToNat]
      refine ifB_dec (fun c3 => ?_) (fun c3 => ?_)
      · rw [if_pos c3] at k
        refine RunS.stR (i := 5) H3 rfl (U.lit rfl) fun h4 H4 => ?_
        have hfl2 := frl_s (x.s 2 (x.ret 0)) 5 1
        try simp only [nilC, bsx, Nat.reduceAdd, Int.reduceLE, Int.reduceLT, Int.reduceToNat, RunS.l H4]
        exact callV_fn (suCall_call H4 Args.none (by omega) (by omega) fun h5 b' o' _ _ H5 => k h5 (RunS.drp (RunS.none H5)))
      · rw [if_neg c3] at k
        try simp only [nilC, bsx, Nat.reduceAdd, Int.reduceLE, Int.reduceLT, Int.reduceToNat, RunS.l H3]
        exact callV_fn (suEnd_call H3 (U.lit rfl) U0 U0 (by omega) fun h5 b' o' H5 => k h5 (RunS.drp (RunS.none H5)))
  rw [if_neg c] at k
  refine ifB_dec (fun c => ?_) (fun c => ?_)
  · rw [if_pos c] at k
    refine callV_fn (rAdd H1 (by decide) O.st fun h2 H2 u2 => ?_)
    try simp +decide only [nilC, bsx, Nat.reduceAdd, Int.reduceLE, Int.reduceLT, Int.reduceToNat, rsx, g_s, g_s_ne, RunS.al H2, wrap32_eq]
    refine callV_fn (oMake_call (u32_V _) (u32_V _) ?_)
    try simp +decide only [nilC, bsx, Nat.reduceAdd, Int.reduceLE, Int.reduceLT, Int.reduceToNat, rsx, g_s, g_s_ne, RunS.al H2]
    refine RunS.stR (i := 4) H2 rfl (ordMake_U _ _) fun h3 H3 => ?_
    try simp +decide only [nilC, bsx, Nat.reduceAdd, Int.reduceLE, Int.reduceLT, Int.reduceToNat, rsx, g_s, g_s_ne, RunS.al H3]
    refine callV_fn (RunS.feed H3 fun q R' HF re => ?_)
    try simp +decide only [nilC, bsx, Nat.reduceAdd, Int.reduceLE, Int.reduceLT, Int.reduceToNat, rsx, g_s, g_s_ne, RunS.al H3]
    refine callV_fn (rPlanO H3 fun h4 o4 => pl15 ?_)
    have H4 := RunS.old H3 o4
    have HF4 := HF.old o4
    try simp only [nilC, bsx, Nat.reduceAdd, Int.reduceLE, Int.reduceLT, Int.reduceToNat]
    refine callV_fn (plConf_call fun h5 o5 => cf7 ?_)
    have H5 := RunS.old H4 o5
    have HF5 := HF4.old o5
    try simp only [nilC, bsx, Nat.reduceAdd, Int.reduceLE, Int.reduceLT, Int.reduceToNat]
    have P5 := RunS.pl H5
    refine callV_fn (rLevel H5 ?_ HF5 re P5.lv fun h6 H6 => ?_)
    · show (x.add 3 1).2.m.used < _
      rw [used_add]; exact O.us
    try simp only [nilC, bsx, Nat.reduceAdd, Int.reduceLE, Int.reduceLT, Int.reduceToNat]
    refine RunS.stR (i := 3) H6 rfl (u64_U _) fun h7 H7 => RunS.stP H7 fun h8 H8 => k h8 (RunS.drp (RunS.none H8))
  rw [if_neg c] at k
  exact k h1 (RunS.drp (RunS.none H1))
def siLaid (x : Run) : Run := if x.f.pc = 3 then x.store (x.na (x.f.g 2) 0) (x.f.g 4) else if x.f.pc = 4 then x.store (x.na (x.f.g 2) 1) (ordPack (u32 (x.f.g 1)) false)
    else if x.f.pc = 5 then x.store (x.na (x.f.g 2) 2) 2 else if x.f.pc = 6 then x.store (x.na (x.f.g 2) 3) (x.f.g 3) else if x.f.pc = 7 then x.store (x.na (x.f.g 2) 4) 0 else x
theorem siLaid_f (x : Run) : (siLaid x).f = x.f := by
  unfold siLaid
  split
  · rfl
  split
  · rfl
  split
  · rfl
  split
  · rfl
  split <;> rfl
theorem siLay_call (H : Sat h (RunS M T tv (some (b, o)) x R)) (O : Ok x) (k : ∀ h', Sat h' (RunS M T tv none (siLay x) R) → K (.tuple #[]) h') :
    CallH Tryz.prog 71 #[rV M T b o] h K := by
  refine call71 ?_
  unfold F71 g71 cf ce bd lP lI nP
  have B := RunS.fB H
  have P := RunS.pl H
  have k : ∀ h', Sat h' (RunS M T tv none ((siLaid x).pc (x.f.pc + 1)) R) → K (.tuple #[]) h' := k
  have H1 := RunS.new H (.cells #[mP M, mP T, fP b o] 102); generalize h.push (.cells #[mP M, mP T, fP b o] 102) = h1 at *; generalize h.size = N at *
  try simp +decide only [nilC, bsx, Nat.reduceAdd, Int.reduceLE, Int.reduceLT, Int.reduceToNat, rsx, g_s, g_s_ne, RunS.al H1]
  refine ⟨fun _ h' => Sat h' (RunS M T tv (some (b, o)) (siLaid x) (pt N (.cells #[mP M, mP T, fP b o] 102) * R)), ?_, ?_⟩
  · unfold siLaid
    refine ifB_dec (fun c => ?_) (fun c => ?_)
    · rw [if_pos c]
      refine callV_fn (suAt_call H1 (by decide) fun h2 o2 => ?_)
      have H2 := RunS.old H1 o2
      try simp +decide only [nilC, bsx, Nat.reduceAdd, Int.reduceLE, Int.reduceLT, Int.reduceToNat, rsx, g_s, g_s_ne, RunS.al H2]
      exact callV_fn (rStore H2 (node_iN P _ _) (B.g 4) O.st fun h3 H3 => H3)
    rw [if_neg c]
    refine ifB_dec (fun c => ?_) (fun c => ?_)
    · rw [if_pos c]
      refine callV_fn (suAt_call H1 (by decide) fun h2 o2 => ?_)
      have H2 := RunS.old H1 o2
      try simp +decide only [nilC, bsx, Nat.reduceAdd, Int.reduceLE, Int.reduceLT, Int.reduceToNat, rsx, g_s, g_s_ne, RunS.al H2, wrap32_eq]
      refine callV_fn (oPack_call (u32_V _) ?_)
      try simp +decide only [nilC, bsx, Nat.reduceAdd, Int.reduceLE, Int.reduceLT, Int.reduceToNat, rsx, g_s, g_s_ne, RunS.al H2]
      exact callV_fn (rStore H2 (node_iN P _ _) (ordPack_U _ _) O.st fun h3 H3 => H3)
    rw [if_neg c]
    refine ifB_dec (fun c => ?_) (fun c => ?_)
    · rw [if_pos c]
      refine callV_fn (suAt_call H1 (by decide) fun h2 o2 => ?_)
      have H2 := RunS.old H1 o2
      try simp +decide only [nilC, bsx, Nat.reduceAdd, Int.reduceLE, Int.reduceLT, Int.reduceToNat, rsx, g_s, g_s_ne, RunS.al H2]
      exact callV_fn (rStore H2 (node_iN P _ _) (U.lit rfl) O.st fun h3 H3 => H3)
    rw [if_neg c]
    refine ifB_dec (fun c => ?_) (fun c => ?_)
    · rw [if_pos c]
      refine callV_fn (suAt_call H1 (by decide) fun h2 o2 => ?_)
      have H2 := RunS.old H1 o2
      try simp +decide only [nilC, bsx, Nat.reduceAdd, Int.reduceLE, Int.reduceLT, Int.reduceToNat, rsx, g_s, g_s_ne, RunS.al H2]
      exact callV_fn (rStore H2 (node_iN P _ _) (B.g 3) O.st fun h3 H3 => H3)
    rw [if_neg c]
    refine ifB_dec (fun c => ?_) (fun c => ?_)
    · rw [if_pos c]
      refine callV_fn (suAt_call H1 (by decide) fun h2 o2 => ?_)
      have H2 := RunS.old H1 o2
      try simp +decide only [nilC, bsx, Nat.reduceAdd, Int.reduceLE, Int.reduceLT, Int.reduceToNat, rsx, g_s, g_s_ne, RunS.al H2]
      exact callV_fn (rStore H2 (node_iN P _ _) U0 O.st fun h3 H3 => H3)
    rw [if_neg c]
    exact H1
  intro v1 v2 v3 v4 v5 g6 h7 H7
  try simp +decide only [nilC, bsx, Nat.reduceAdd, Int.reduceLE, Int.reduceLT, Int.reduceToNat, rsx, g_s, g_s_ne, RunS.al H7, siLaid_f]
  rw [s64_sm (n := x.f.pc + 1) (by have := O.pc; omega) (by have := O.pc; omega)]
  exact RunS.stP H7 fun h8 H8 => k h8 (RunS.drp (RunS.none H8))
theorem siEnter_call (H : Sat h (RunS M T tv (some (b, o)) x R)) (O : Ok x) (L : RL x) (hr : x.f.pc = 10 → x.f.g 5 < x.t.pred.length) (k : ∀ h', Sat h' (RunS M T tv none (siEnter x) R) → K (.tuple #[]) h') :
    CallH Tryz.prog 72 #[rV M T b o] h K := by
  refine call72 ?_
  unfold F72 g72 cf ce bd lS lP lI nP
  have B := RunS.fB H
  have P := RunS.pl H
  have hd := O.fr
  unfold siEnter at k
  dsimp only at k
  have H1 := RunS.new H (.cells #[mP M, mP T, fP b o] 102); generalize h.push (.cells #[mP M, mP T, fP b o] 102) = h1 at *; generalize h.size = N at *
  try simp +decide only [nilC, bsx, Nat.reduceAdd, Int.reduceLE, Int.reduceLT, Int.reduceToNat, rsx, g_s, g_s_ne, RunS.al H1]
  refine ifB_dec (fun c => ?_) (fun c => ?_)
  · rw [if_pos c] at k
    refine RunS.stR (i := 5) H1 rfl U0 fun h2 H2 => ?_
    try simp +decide only [nilC, bsx, Nat.reduceAdd, Int.reduceLE, Int.reduceLT, Int.reduceToNat, rsx, g_s, g_s_ne, RunS.al H2]
    have l1 := frl_s x 5 0
    exact callV_fn (suCallN H2 [x.f.g 4] rfl (one_U (B.g 4)) rfl (by omega) fun h4 b' o' _ _ H4 => k h4 (RunS.drp (RunS.none H4)))
  rw [if_neg c] at k
  refine ifB_dec (fun c => ?_) (fun c => ?_)
  · rw [if_pos c] at k
    refine callV_fn (suLink_call H1 fun h2 o2 => ?_)
    have H2 := RunS.old H1 o2
    try simp +decide only [nilC, bsx, Nat.reduceAdd, Int.reduceLE, Int.reduceLT, Int.reduceToNat, rsx, g_s, g_s_ne, RunS.al H2]
    refine callV_fn (rLoad H2 (node_iN P _ _) O.st fun h3 H3 u3 => ?_)
    try simp +decide only [nilC, bsx, Nat.reduceAdd, Int.reduceLE, Int.reduceLT, Int.reduceToNat, rsx, g_s, g_s_ne, RunS.al H3]
    exact RunS.stR (i := 6) H3 rfl u3 fun h4 H4 => RunS.stP H4 fun h5 H5 => k h5 (RunS.drp (RunS.none H5))
  rw [if_neg c] at k
  refine ifB_dec (fun c => ?_) (fun c => ?_)
  · rw [if_pos c] at k
    have hr := hr c
    have hr0 := (B.g 5).1
    obtain ⟨pb, sb, wb, W⟩ := RunS.rows H1 L
    have wf := W.f
    try simp +decide only [nilC, bsx, Nat.reduceAdd, Int.reduceLE, Int.reduceLT, Int.reduceToNat, rsx, g_s, g_s_ne, RunS.al H1, wf]
    refine ⟨by omega, by omega, ?_⟩
    have wg := W.g (i := (x.f.g 5).toNat) (by omega)
    try simp +decide only [nilC, bsx, Nat.reduceAdd, Int.reduceLE, Int.reduceLT, Int.reduceToNat, rsx, g_s, g_s_ne, RunS.al H1, wg]
    refine callV_fn (suLink_call H1 fun h2 o2 => ?_)
    have H2 := RunS.old H1 o2
    have W2 := W.old o2
    have wf2 := W2.f
    have wg2 := W2.g (i := (x.f.g 5).toNat) (by omega)
    try simp +decide only [nilC, bsx, Nat.reduceAdd, Int.reduceLE, Int.reduceLT, Int.reduceToNat, rsx, g_s, g_s_ne, RunS.al H2, wf2, wg2]
    refine callV_fn (wNext_call (B.g 6) ?_)
    try simp +decide only [nilC, bsx, Nat.reduceAdd, Int.reduceLE, Int.reduceLT, Int.reduceToNat, rsx, g_s, g_s_ne, RunS.al H2]
    refine callV_fn (rStore H2 (node_iN P _ _) wNext_U O.st fun h3 H3 => ?_)
    try simp +decide only [nilC, bsx, Nat.reduceAdd, Int.reduceLE, Int.reduceLT, Int.reduceToNat, rsx, g_s, g_s_ne, RunS.al H3]
    refine RunS.stR (i := 5) H3 rfl (u64_U _) fun h4 H4 => ?_
    try simp +decide only [nilC, bsx, Nat.reduceAdd, Int.reduceLE, Int.reduceLT, Int.reduceToNat, rsx, g_s, g_s_ne, RunS.al H4]
    refine RunS.stP H4 fun h5 H5 => ?_
    try simp +decide only [nilC, bsx, Nat.reduceAdd, Int.reduceLE, Int.reduceLT, Int.reduceToNat, rsx, g_s, g_s_ne, RunS.al H5, B.len]
    refine ifB_dec (fun c2 => ?_) (fun c2 => ?_)
    · rw [if_pos c2] at k
      exact RunS.stP H5 fun h6 H6 => k h6 (RunS.drp (RunS.none H6))
    · rw [if_neg c2] at k
      exact k h5 (RunS.drp (RunS.none H5))
  rw [if_neg c] at k
  refine ifB_dec (fun c => ?_) (fun c => ?_)
  · rw [if_pos c] at k
    refine RunS.stR (i := 5) H1 rfl (U.lit rfl) fun h2 H2 => ?_
    try simp +decide only [nilC, bsx, Nat.reduceAdd, Int.reduceLE, Int.reduceLT, Int.reduceToNat, rsx, g_s, g_s_ne, RunS.al H2]
    refine RunS.stP H2 fun h3 H3 => ?_
    have L3 : RL ((x.s 5 1).pc 8) := L.at ⟨rfl, rfl, rfl⟩
    obtain ⟨pb, sb, wb, W⟩ := RunS.rows H3 L3
    have wf := W.f
    have l0 := L3.e0
    have wg := W.g (i := 0) (by omega)
    try simp +decide only [nilC, bsx, Nat.reduceAdd, Int.reduceLE, Int.reduceLT, Int.reduceToNat, rsx, g_s, g_s_ne, RunS.al H3, wf, wg]
    refine ⟨by omega, ?_⟩
    try simp +decide only [nilC, bsx, Nat.reduceAdd, Int.reduceLE, Int.reduceLT, Int.reduceToNat, rsx, g_s, g_s_ne, RunS.al H3, wf, wg]
    refine ⟨by omega, ?_⟩
    try simp +decide only [nilC, bsx, Nat.reduceAdd, Int.reduceLE, Int.reduceLT, Int.reduceToNat, rsx, g_s, g_s_ne, RunS.al H3, wf, wg]
    refine callV_fn (suLink_call H3 fun h4 o4 => ?_)
    have H4 := RunS.old H3 o4
    have W4 := W.old o4
    have wf4 := W4.f
    have wg4 := W4.g (i := 0) (by omega)
    try simp +decide only [nilC, bsx, Nat.reduceAdd, Int.reduceLE, Int.reduceLT, Int.reduceToNat, rsx, g_s, g_s_ne, RunS.al H4, wf4, wg4]
    refine callV_fn (suSwing_call H4 (node_iN P _ _) (RunS.woU H4 0) O.st fun h5 H5 => ?_)
    try simp +decide only [nilC, bsx, Nat.reduceAdd, Int.reduceLE, Int.reduceLT, Int.reduceToNat, rsx, g_s, g_s_ne, RunS.al H5]
    refine ifB_mk (fun c2 => ?_) (fun c2 => ?_)
    · rw [if_pos c2] at k
      exact RunS.stP H5 fun h6 H6 => k h6 (RunS.drp (RunS.none H6))
    · rw [if_neg (by rw [c2]; simp)] at k
      exact k h5 (RunS.drp (RunS.none H5))
  rw [if_neg c] at k
  exact k h1 (RunS.drp (RunS.none H1))
theorem siClimb_call (H : Sat h (RunS M T tv (some (b, o)) x R)) (O : Ok x) (L : RL x) (hr : x.f.pc = 12 → x.f.g 3 ≤ x.t.pred.length) (hr2 : 13 ≤ x.f.pc → x.f.g 5 < x.t.pred.length) (k : ∀ h', Sat h' (RunS M T tv none (siClimb x) R) → K (.tuple #[]) h') :
    CallH Tryz.prog 73 #[rV M T b o] h K := by
  refine call73 ?_
  unfold F73 g73 cf ce bd lS lP lI nP
  have B := RunS.fB H
  have P := RunS.pl H
  have hd := O.fr
  have hr0 := (B.g 5).1
  unfold siClimb at k
  dsimp only at k
  have H1 := RunS.new H (.cells #[mP M, mP T, fP b o] 102); generalize h.push (.cells #[mP M, mP T, fP b o] 102) = h1 at *; generalize h.size = N at *
  try simp +decide only [nilC, bsx, Nat.reduceAdd, Int.reduceLE, Int.reduceLT, Int.reduceToNat, rsx, g_s, g_s_ne, RunS.al H1]
  refine ifB_dec (fun c => ?_) (fun c => ?_)
  · rw [if_pos c] at k
    have hr := hr c
    refine ifB_dec (fun c2 => ?_) (fun c2 => ?_)
    · rw [if_pos c2] at k
      exact RunS.stP H1 fun h2 H2 => k h2 (RunS.drp (RunS.none H2))
    rw [if_neg c2] at k
    have hi : x.f.g 5 < x.t.pred.length := by omega
    refine callV_fn (suLink_call H1 fun h2 o2 => ?_)
    have H2 := RunS.old H1 o2
    try simp +decide only [nilC, bsx, Nat.reduceAdd, Int.reduceLE, Int.reduceLT, Int.reduceToNat, rsx, g_s, g_s_ne, RunS.al H2]
    refine callV_fn (rLoad H2 (node_iN P _ _) O.st fun h3 H3 u3 => ?_)
    try simp +decide only [nilC, bsx, Nat.reduceAdd, Int.reduceLE, Int.reduceLT, Int.reduceToNat, rsx, g_s, g_s_ne, RunS.al H3]
    refine RunS.stR (i := 6) H3 rfl u3 fun h4 H4 => ?_
    try simp +decide only [nilC, bsx, Nat.reduceAdd, Int.reduceLE, Int.reduceLT, Int.reduceToNat, rsx, g_s, g_s_ne, RunS.al H4, B.len]
    refine callV_fn (suMark_call u3 ?_)
    try simp +decide only [nilC, bsx, Nat.reduceAdd, Int.reduceLE, Int.reduceLT, Int.reduceToNat, rsx, g_s, g_s_ne, RunS.al H4]
    refine ifB_mk (fun c3 => ?_) (fun c3 => ?_)
    · rw [if_pos c3] at k
      exact RunS.stP H4 fun h5 H5 => k h5 (RunS.drp (RunS.none H5))
    rw [if_neg (by rw [c3]; simp)] at k
    have L4 : RL ((x.load (x.nlink (x.f.g 2) (x.f.g 5))).2.s 6 (x.load (x.nlink (x.f.g 2) (x.f.g 5))).1) := L.at ⟨rfl, rfl, rfl⟩
    obtain ⟨pb, sb, wb, W⟩ := RunS.rows H4 L4
    have wf := W.f
    try simp +decide only [nilC, bsx, Nat.reduceAdd, Int.reduceLE, Int.reduceLT, Int.reduceToNat, rsx, g_s, g_s_ne, RunS.al H4, B.len, wf]
    refine ⟨by omega, hi, ?_⟩
    have wg := W.g (i := (x.f.g 5).toNat) (by show _ < x.t.pred.length; omega)
    try simp +decide only [nilC, bsx, Nat.reduceAdd, Int.reduceLE, Int.reduceLT, Int.reduceToNat, rsx, g_s, g_s_ne, RunS.al H4, wf, wg]
    refine callV_fn (suPtr_call u3 ?_)
    try simp +decide only [nilC, bsx, Nat.reduceAdd, Int.reduceLE, Int.reduceLT, Int.reduceToNat, rsx, g_s, g_s_ne, RunS.al H4, wf, wg]
    refine ifB_mk (fun c3 => ?_) (fun c3 => ?_)
    · have c3' : wptr (x.load (x.nlink (x.f.g 2) (x.f.g 5))).1 ≠ x.t.succ.getD (x.f.g 5).toNat 0 := bne_iff_ne.1 c3
      rw [if_pos c3'] at k
      exact RunS.stP H4 fun h5 H5 => k h5 (RunS.drp (RunS.none H5))
    · have c3' : ¬ wptr (x.load (x.nlink (x.f.g 2) (x.f.g 5))).1 ≠ x.t.succ.getD (x.f.g 5).toNat 0 := fun hh => hh (bne_eq_false_iff_eq.1 c3)
      rw [if_neg c3'] at k
      exact RunS.stP H4 fun h5 H5 => k h5 (RunS.drp (RunS.none H5))
  rw [if_neg c] at k
  obtain ⟨pb, sb, wb, W⟩ := RunS.rows H1 L
  have wf := W.f
  refine ifB_dec (fun c => ?_) (fun c => ?_)
  · rw [if_pos c] at k
    have hr := hr2 (by omega)
    try simp +decide only [nilC, bsx, Nat.reduceAdd, Int.reduceLE, Int.reduceLT, Int.reduceToNat, rsx, g_s, g_s_ne, RunS.al H1, wf]
    refine ⟨by omega, by omega, ?_⟩
    have wg := W.g (i := (x.f.g 5).toNat) (by omega)
    try simp +decide only [nilC, bsx, Nat.reduceAdd, Int.reduceLE, Int.reduceLT, Int.reduceToNat, rsx, g_s, g_s_ne, RunS.al H1, wg]
    refine callV_fn (suLink_call H1 fun h2 o2 => ?_)
    have H2 := RunS.old H1 o2
    have W2 := W.old o2
    have wf2 := W2.f
    have wg2 := W2.g (i := (x.f.g 5).toNat) (by omega)
    try simp +decide only [nilC, bsx, Nat.reduceAdd, Int.reduceLE, Int.reduceLT, Int.reduceToNat, rsx, g_s, g_s_ne, RunS.al H2, wf2, wg2]
    refine callV_fn (suSwing_call H2 (node_iN P _ _) (B.g 6) O.st fun h3 H3 => ?_)
    try simp +decide only [nilC, bsx, Nat.reduceAdd, Int.reduceLE, Int.reduceLT, Int.reduceToNat, rsx, g_s, g_s_ne, RunS.al H3]
    exact RunS.stP H3 fun h5 H5 => k h5 (RunS.drp (RunS.none H5))
  rw [if_neg c] at k
  refine ifB_dec (fun c => ?_) (fun c => ?_)
  · rw [if_pos c] at k
    have hr := hr2 (by omega)
    try simp +decide only [nilC, bsx, Nat.reduceAdd, Int.reduceLE, Int.reduceLT, Int.reduceToNat, rsx, g_s, g_s_ne, RunS.al H1, wf]
    refine ⟨by omega, by omega, ?_⟩
    have wg := W.g (i := (x.f.g 5).toNat) (by omega)
    try simp +decide only [nilC, bsx, Nat.reduceAdd, Int.reduceLE, Int.reduceLT, Int.reduceToNat, rsx, g_s, g_s_ne, RunS.al H1, wf, wg]
    refine ⟨by omega, by omega, ?_⟩
    try simp +decide only [nilC, bsx, Nat.reduceAdd, Int.reduceLE, Int.reduceLT, Int.reduceToNat, rsx, g_s, g_s_ne, RunS.al H1, wf, wg]
    refine callV_fn (suLink_call H1 fun h2 o2 => ?_)
    have H2 := RunS.old H1 o2
    have W2 := W.old o2
    have wf2 := W2.f
    have wg2 := W2.g (i := (x.f.g 5).toNat) (by omega)
    try simp +decide only [nilC, bsx, Nat.reduceAdd, Int.reduceLE, Int.reduceLT, Int.reduceToNat, rsx, g_s, g_s_ne, RunS.al H2, wf2, wg2]
    refine callV_fn (suSwing_call H2 (node_iN P _ _) (RunS.woU H2 _) O.st fun h3 H3 => ?_)
    try simp +decide only [nilC, bsx, Nat.reduceAdd, Int.reduceLE, Int.reduceLT, Int.reduceToNat, rsx, g_s, g_s_ne, RunS.al H3]
    refine ifB_mk (fun c3 => ?_) (fun c3 => ?_)
    · rw [if_pos c3] at k
      refine RunS.stR (i := 5) H3 rfl (u64_U _) fun h4 H4 => ?_
      try simp +decide only [nilC, bsx, Nat.reduceAdd, Int.reduceLE, Int.reduceLT, Int.reduceToNat, rsx, g_s, g_s_ne, RunS.al H4]
      exact RunS.stP H4 fun h5 H5 => k h5 (RunS.drp (RunS.none H5))
    · rw [if_neg (by rw [c3]; simp)] at k
      exact callV_fn (suCallN H3 [x.f.g 4] rfl (one_U (B.g 4)) rfl (show x.t.fr.length < _ by omega) fun h4 b' o' _ _ H4 => k h4 (RunS.drp (RunS.none H4)))
  rw [if_neg c] at k
  exact k h1 (RunS.drp (RunS.none H1))
theorem siLeave_call (H : Sat h (RunS M T tv (some (b, o)) x R)) (O : Ok x) (k : ∀ h', Sat h' (RunS M T tv none (siLeave x) R) → K (.tuple #[]) h') :
    CallH Tryz.prog 74 #[rV M T b o] h K := by
  refine call74 ?_
  unfold F74 g74 cf bd lP lI nP
  have B := RunS.fB H
  have P := RunS.pl H
  have hd := O.fr
  unfold siLeave at k
  dsimp only at k
  have H1 := RunS.new H (.cells #[mP M, mP T, fP b o] 102); generalize h.push (.cells #[mP M, mP T, fP b o] 102) = h1 at *; generalize h.size = N at *
  try simp +decide only [nilC, bsx, Nat.reduceAdd, Int.reduceLE, Int.reduceLT, Int.reduceToNat, rsx, g_s, g_s_ne, RunS.al H1]
  refine ifB_dec (fun c => ?_) (fun c => ?_)
  · rw [if_pos c] at k
    refine callV_fn (suDrop_call H1 O.st fun h2 H2 => ?_)
    try simp +decide only [nilC, bsx, Nat.reduceAdd, Int.reduceLE, Int.reduceLT, Int.reduceToNat, rsx, g_s, g_s_ne, RunS.al H2]
    refine ifB_mk (fun c3 => ?_) (fun c3 => ?_)
    · rw [if_pos c3] at k
      have ef : (x.drop1 (x.f.g 2)).2.f = x.f := rfl
      try simp +decide only [nilC, bsx, Nat.reduceAdd, Int.reduceLE, Int.reduceLT, Int.reduceToNat, rsx, g_s, g_s_ne, RunS.al H2, ef]
      exact callV_fn (suCallN H2 [x.f.g 4] rfl (one_U (B.g 4)) rfl (show x.t.fr.length < _ by omega) fun h4 b' o' _ _ H4 => k h4 (RunS.drp (RunS.none H4)))
    · rw [if_neg (by rw [c3]; simp)] at k
      exact RunS.stP H2 fun h5 H5 => k h5 (RunS.drp (RunS.none H5))
  rw [if_neg c] at k
  refine ifB_dec (fun c => ?_) (fun c => ?_)
  · rw [if_pos c] at k
    exact callV_fn (suCallN H1 [x.f.g 2] rfl (one_U (B.g 2)) rfl (by omega) fun h4 b' o' _ _ H4 => k h4 (RunS.drp (RunS.none H4)))
  · rw [if_neg c] at k
    exact callV_fn (suEnd_call H1 U0 U0 U0 (by omega) fun h5 b' o' H5 => k h5 (RunS.drp (RunS.none H5)))
structure SiOk (x : Run) : Prop where
  L : RL x
  a : x.f.pc = 10 → x.f.g 5 < x.t.pred.length
  b : x.f.pc = 12 → x.f.g 3 ≤ x.t.pred.length
  c : 13 ≤ x.f.pc → x.f.pc ≤ 14 → x.f.g 5 < x.t.pred.length
theorem siStep_call (H : Sat h (RunS M T tv (some (b, o)) x R)) (O : Ok x) (S : SiOk x) (k : ∀ h', Sat h' (RunS M T tv none (siStep x) R) → K (.tuple #[]) h') :
    CallH Tryz.prog 45 #[rV M T b o] h K := by
  refine call45 ?_
  unfold F45 g45 cf lP lI nP
  unfold siStep at k
  have H1 := RunS.new H (.cells #[mP M, mP T, fP b o] 102); generalize h.push (.cells #[mP M, mP T, fP b o] 102) = h1 at *; generalize h.size = N at *
  try simp +decide only [nilC, bsx, Nat.reduceAdd, Int.reduceLE, Int.reduceLT, Int.reduceToNat, rsx, g_s, g_s_ne, RunS.al H1]
  refine ifB_dec (fun c => ?_) (fun c => ?_)
  · rw [if_pos c] at k
    exact callV_fn (siTake_call H1 O fun h2 H2 => k h2 (RunS.drp H2))
  rw [if_neg c] at k
  refine ifB_dec (fun c => ?_) (fun c => ?_)
  · rw [if_pos c] at k
    exact callV_fn (siLay_call H1 O fun h2 H2 => k h2 (RunS.drp H2))
  rw [if_neg c] at k
  refine ifB_dec (fun c => ?_) (fun c => ?_)
  · rw [if_pos c] at k
    exact callV_fn (siEnter_call H1 O S.L S.a fun h2 H2 => k h2 (RunS.drp H2))
  rw [if_neg c] at k
  refine ifB_dec (fun c => ?_) (fun c => ?_)
  · rw [if_pos c] at k
    exact callV_fn (siClimb_call H1 O S.L S.b (fun hh => S.c hh c) fun h2 H2 => k h2 (RunS.drp H2))
  rw [if_neg c] at k
  exact callV_fn (siLeave_call H1 O fun h2 H2 => k h2 (RunS.drp H2))
end
end
section
set_option maxRecDepth 100000

end
section
open Mod
section
variable {K : Value → Heap → Prop} {h : Heap} {M T b o N : Nat} {tv : Value} {fo : Option (Nat × Nat)} {x : Run} {R : Hp}
end
end
section
open Mod
theorem and1 {n : Int} (h : U n) : Mod.u64 ((((BitVec.ofInt 64 n) &&& (BitVec.ofInt 64 1)).toNat : Nat) : Int) = n % 2 := by
  obtain ⟨h0, h1⟩ := h
  have e : (BitVec.ofInt 64 n).toNat = n.toNat := by
    rw [BitVec.toNat_ofInt]
    omega
  rw [BitVec.toNat_and, e, show (BitVec.ofInt 64 1).toNat = 1 from rfl, Nat.and_one_is_mod]
  unfold Mod.u64
  omega
section
variable {K : Value → Heap → Prop} {h : Heap} {M T b o N : Nat} {tv : Value} {fo : Option (Nat × Nat)} {x : Run} {R : Hp}
end
end
section
open Mod
section
variable {K : Value → Heap → Prop} {h : Heap} {M T b o N : Nat} {tv : Value} {fo : Option (Nat × Nat)} {x : Run} {R : Hp}
theorem three_U {u v w : Int} (h1 : U u) (h2 : U v) (h3 : U w) : ∀ y ∈ [u, v, w], U y := by
  intro y hy
  simp only [List.mem_cons, List.not_mem_nil, or_false] at hy
  rcases hy with rfl | rfl | rfl
  · exact h1
  · exact h2
  · exact h3
end
end
section
open Mod
section
variable {K : Value → Heap → Prop} {h : Heap} {M T b o N : Nat} {tv : Value} {fo : Option (Nat × Nat)} {x : Run} {R : Hp}
theorem nlink_u (x : Run) (n r : Int) : x.nlink n (Mod.u64 r) = x.nlink n r := by
  unfold Run.nlink
  have e : s64 (Mod.u64 r) = s64 r := by unfold s64 Mod.u64; omega
  rw [e]
theorem pc_pc (x : Run) (i j : Int) : (x.pc i).pc j = x.pc j := by
  show (x.pc i).setF ((x.pc i).f.at j) = x.setF (x.f.at j)
  rw [f_pc]
  unfold Run.pc Run.setF Thr.setTop
  simp [Frm.at]
theorem srPair_call (H : Sat h (RunS M T tv (some (b, o)) x R)) (hd : x.t.fr.length < 1073741823) (k : ∀ h', Sat h' (RunS M T tv none (srPair x) R) → K (.tuple #[]) h') :
    CallH Tryz.prog 151 #[rV M T b o] h K := by
  refine call151 ?_
  unfold F151 g151 cf ce bd lP lI nP
  have B := RunS.fB H
  unfold srPair at k
  have H1 := RunS.new H (.cells #[mP M, mP T, fP b o] 103); generalize h.push (.cells #[mP M, mP T, fP b o] 103) = h1 at *; generalize h.size = N at *
  try simp +decide only [nilC, bsx, Nat.reduceAdd, Int.reduceLE, Int.reduceLT, Int.reduceToNat, rsx, g_s, g_s_ne, RunS.al H1]
  refine callV_fn (oKey_call (B.g 2) ?_)
  try simp +decide only [nilC, bsx, Nat.reduceAdd, Int.reduceLE, Int.reduceLT, Int.reduceToNat, rsx, g_s, g_s_ne, RunS.al H1]
  refine callV_fn (oVal_call ?_)
  try simp +decide only [nilC, bsx, Nat.reduceAdd, Int.reduceLE, Int.reduceLT, Int.reduceToNat, rsx, g_s, g_s_ne, RunS.al H1, ordKey_u (B.g 2), ordVal_u]
  exact callV_fn (suEnd_call H1 (U.lit rfl) (ordKey_U (B.g 2)) (ordVal_U _) hd fun h5 b' o' H5 => k h5 (RunS.drp (RunS.none H5)))
theorem srLook_call (H : Sat h (RunS M T tv (some (b, o)) x R)) (O : Ok x) (k : ∀ h', Sat h' (RunS M T tv none (srLook x) R) → K (.tuple #[]) h') :
    CallH Tryz.prog 75 #[rV M T b o] h K := by
  refine call75 ?_
  unfold F75 g75 q75_1 cf ce bd lP lI nP
  have B := RunS.fB H
  have P := RunS.pl H
  have hd := O.fr
  have r0 := RunS.ret H 0
  unfold srLook at k
  dsimp only at k
  have H1 := RunS.new H (.cells #[mP M, mP T, fP b o] 103); generalize h.push (.cells #[mP M, mP T, fP b o] 103) = h1 at *; generalize h.size = N at *
  try simp +decide only [nilC, bsx, Nat.reduceAdd, Int.reduceLE, Int.reduceLT, Int.reduceToNat, rsx, g_s, g_s_ne, RunS.al H1]
  refine ifB_dec (fun c => ?_) (fun c => ?_)
  · rw [if_pos c] at k
    refine RunS.stR (i := 6) H1 rfl U0 fun h2 H2 => ?_
    try simp +decide only [nilC, bsx, Nat.reduceAdd, Int.reduceLE, Int.reduceLT, Int.reduceToNat, rsx, g_s, g_s_ne, RunS.al H2]
    refine callV_fn (rPlanO H2 fun h3 o3 => pl15 ?_)
    have H3 := RunS.old H2 o3
    try simp +decide only [nilC, bsx, Nat.reduceAdd, Int.reduceLE, Int.reduceLT, Int.reduceToNat, rsx, g_s, g_s_ne, RunS.al H3]
    refine callV_fn (plSlots_call fun h4 o4 => ?_)
    have H4 := RunS.old H3 o4
    try simp +decide only [nilC, bsx, Nat.reduceAdd, Int.reduceLE, Int.reduceLT, Int.reduceToNat, rsx, g_s, g_s_ne, RunS.al H4]
    refine callV_fn (suLink_call H4 fun h5 o5 => ?_)
    have H5 := RunS.old H4 o5
    try simp +decide only [nilC, bsx, Nat.reduceAdd, Int.reduceLE, Int.reduceLT, Int.reduceToNat, rsx, g_s, g_s_ne, RunS.al H5]
    have l1 := frl_s x 6 0
    exact callV_fn (suCallN H5 [Mod.u64 (x.m.p.slots - 2), Mod.u64 (x.nlink 1 0)] rfl (two_U (u64_U _) (u64_U _)) rfl (by omega) fun h6 b' o' _ _ H6 => k h6 (RunS.drp (RunS.none H6)))
  rw [if_neg c] at k
  refine ifB_dec (fun c => ?_) (fun c => ?_)
  · rw [if_pos c] at k
    refine callV_fn (suPtr_call r0 ?_)
    try simp +decide only [nilC, bsx, Nat.reduceAdd, Int.reduceLE, Int.reduceLT, Int.reduceToNat, rsx, g_s, g_s_ne, RunS.al H1]
    refine RunS.stR (i := 0) H1 rfl r0 fun h2 H2 => ?_
    try simp +decide only [nilC, bsx, Nat.reduceAdd, Int.reduceLE, Int.reduceLT, Int.reduceToNat, rsx, g_s, g_s_ne, RunS.al H2]
    refine RunS.stR (i := 1) H2 rfl (wptr_U _) fun h3 H3 => ?_
    try simp +decide only [nilC, bsx, Nat.reduceAdd, Int.reduceLE, Int.reduceLT, Int.reduceToNat, rsx, g_s, g_s_ne, RunS.al H3]
    refine RunS.stP H3 fun h4 H4 => ?_
    try simp +decide only [nilC, bsx, Nat.reduceAdd, Int.reduceLE, Int.reduceLT, Int.reduceToNat, rsx, g_s, g_s_ne, RunS.al H4, B.len]
    refine ifB_dec (fun c2 => ?_) (fun c2 => ?_)
    · rw [if_pos c2] at k
      have l1 := frl_s x 0 (x.ret 0)
      have l2 := frl_s (x.s 0 (x.ret 0)) 1 (wptr (x.ret 0))
      have l3 := frl_pc ((x.s 0 (x.ret 0)).s 1 (wptr (x.ret 0))) 2
      exact callV_fn (suEnd_call H4 (U.lit rfl) U0 U0 (by omega) fun h5 b' o' H5 => k h5 (RunS.drp (RunS.none H5)))
    · rw [if_neg c2] at k
      exact k h4 (RunS.drp (RunS.none H4))
  rw [if_neg c] at k
  refine ifB_dec (fun c => ?_) (fun c => ?_)
  · rw [if_pos c] at k
    refine callV_fn (suAt_call H1 (by decide) fun h2 o2 => ?_)
    have H2 := RunS.old H1 o2
    try simp +decide only [nilC, bsx, Nat.reduceAdd, Int.reduceLE, Int.reduceLT, Int.reduceToNat, rsx, g_s, g_s_ne, RunS.al H2]
    refine callV_fn (rLoad H2 (node_iN P _ _) O.st fun h3 H3 u3 => ?_)
    try simp +decide only [nilC, bsx, Nat.reduceAdd, Int.reduceLE, Int.reduceLT, Int.reduceToNat, rsx, g_s, g_s_ne, RunS.al H3]
    refine RunS.stR (i := 3) H3 rfl u3 fun h4 H4 => RunS.stP H4 fun h5 H5 => ?_
    try simp +decide only [nilC, bsx, Nat.reduceAdd, Int.reduceLE, Int.reduceLT, Int.reduceToNat, rsx, g_s, g_s_ne, RunS.al H5, B.len]
    refine callV_fn (oGone_call u3 ?_)
    try simp +decide only [nilC, bsx, Nat.reduceAdd, Int.reduceLE, Int.reduceLT, Int.reduceToNat, rsx, g_s, g_s_ne, RunS.al H5]
    refine ifB_mk (fun c2 => ?_) (fun c2 => ?_)
    · rw [if_pos c2] at k
      exact RunS.stP H5 fun h6 H6 => k h6 (RunS.drp (RunS.none H6))
    · rw [if_neg (by rw [c2]; simp)] at k
      exact k h5 (RunS.drp (RunS.none H5))
  rw [if_neg c] at k
  refine ifB_dec (fun c => ?_) (fun c => ?_)
  · rw [if_pos c] at k
    refine callV_fn (suAt_call H1 (by decide) fun h2 o2 => ?_)
    have H2 := RunS.old H1 o2
    try simp +decide only [nilC, bsx, Nat.reduceAdd, Int.reduceLE, Int.reduceLT, Int.reduceToNat, rsx, g_s, g_s_ne, RunS.al H2]
    refine callV_fn (rLoad H2 (node_iN P _ _) O.st fun h3 H3 u3 => ?_)
    try simp +decide only [nilC, bsx, Nat.reduceAdd, Int.reduceLE, Int.reduceLT, Int.reduceToNat, rsx, g_s, g_s_ne, RunS.al H3]
    refine RunS.stR (i := 2) H3 rfl u3 fun h4 H4 => RunS.stP H4 fun h5 H5 => ?_
    try simp +decide only [nilC, bsx, Nat.reduceAdd, Int.reduceLE, Int.reduceLT, Int.reduceToNat, rsx, g_s, g_s_ne, RunS.al H5, B.len]
    refine ifB_dec (fun c2 => ?_) (fun c2 => ?_)
    · rw [if_pos c2] at k
      have l1 := frl_s (x.load (x.na (x.f.g 1) 0)).2 2 (x.load (x.na (x.f.g 1) 0)).1
      have l2 := frl_pc ((x.load (x.na (x.f.g 1) 0)).2.s 2 (x.load (x.na (x.f.g 1) 0)).1) 4
      have l3 : (x.load (x.na (x.f.g 1) 0)).2.t.fr = x.t.fr := rfl
      rw [l3] at l1
      exact callV_fn (srPair_call H5 (by omega) fun h6 H6 => k h6 (RunS.drp H6))
    · rw [if_neg c2] at k
      exact k h5 (RunS.drp (RunS.none H5))
  rw [if_neg c] at k
  exact k h1 (RunS.drp (RunS.none H1))
theorem srBury_call (H : Sat h (RunS M T tv (some (b, o)) x R)) (O : Ok x) (k : ∀ h', Sat h' (RunS M T tv none (srBury x) R) → K (.tuple #[]) h') :
    CallH Tryz.prog 76 #[rV M T b o] h K := by
  refine call76 ?_
  unfold F76 g76 cf ce bd lP lI nP
  have B := RunS.fB H
  have P := RunS.pl H
  unfold srBury at k
  dsimp only at k
  have H1 := RunS.new H (.cells #[mP M, mP T, fP b o] 103); generalize h.push (.cells #[mP M, mP T, fP b o] 103) = h1 at *; generalize h.size = N at *
  try simp +decide only [nilC, bsx, Nat.reduceAdd, Int.reduceLE, Int.reduceLT, Int.reduceToNat, rsx, g_s, g_s_ne, RunS.al H1]
  refine ifB_dec (fun c => ?_) (fun c => ?_)
  · rw [if_pos c] at k
    refine RunS.stP H1 fun h2 H2 => ?_
    try simp +decide only [nilC, bsx, Nat.reduceAdd, Int.reduceLE, Int.reduceLT, Int.reduceToNat, rsx, g_s, g_s_ne, RunS.al H2]
    refine callV_fn (suAt_call H2 (by decide) fun h3 o3 => ?_)
    have H3 := RunS.old H2 o3
    try simp +decide only [nilC, bsx, Nat.reduceAdd, Int.reduceLE, Int.reduceLT, Int.reduceToNat, rsx, g_s, g_s_ne, RunS.al H3]
    refine callV_fn (oBury_call (B.g 3) ?_)
    try simp +decide only [nilC, bsx, Nat.reduceAdd, Int.reduceLE, Int.reduceLT, Int.reduceToNat, rsx, g_s, g_s_ne, RunS.al H3]
    refine callV_fn (rCas H3 (node_iN P _ _) (ordBury_U (B.g 3)) O.st fun h4 H4 => ?_)
    try simp +decide only [nilC, bsx, Nat.reduceAdd, Int.reduceLE, Int.reduceLT, Int.reduceToNat, rsx, g_s, g_s_ne, RunS.al H4]
    refine ifB_mk (fun c2 => ?_) (fun c2 => ?_)
    · rw [if_pos c2] at k
      refine RunS.stR (i := 6) H4 rfl (U.lit rfl) fun h5 H5 => ?_
      try simp +decide only [nilC, bsx, Nat.reduceAdd, Int.reduceLE, Int.reduceLT, Int.reduceToNat, rsx, g_s, g_s_ne, RunS.al H5]
      exact RunS.stP H5 fun h6 H6 => k h6 (RunS.drp (RunS.none H6))
    · rw [if_neg (by rw [c2]; simp)] at k
      exact k h4 (RunS.drp (RunS.none H4))
  rw [if_neg c] at k
  refine ifB_dec (fun c => ?_) (fun c => ?_)
  · rw [if_pos c] at k
    refine callV_fn (suAt_call H1 (by decide) fun h3 o3 => ?_)
    have H3 := RunS.old H1 o3
    try simp +decide only [nilC, bsx, Nat.reduceAdd, Int.reduceLE, Int.reduceLT, Int.reduceToNat, rsx, g_s, g_s_ne, RunS.al H3]
    refine callV_fn (rStore H3 (node_iN P _ _) (U.lit rfl) O.st fun h4 H4 => ?_)
    exact RunS.stP H4 fun h6 H6 => k h6 (RunS.drp (RunS.none H6))
  rw [if_neg c] at k
  refine ifB_dec (fun c => ?_) (fun c => ?_)
  · rw [if_pos c] at k
    refine callV_fn (suAt_call H1 (by decide) fun h3 o3 => ?_)
    have H3 := RunS.old H1 o3
    try simp +decide only [nilC, bsx, Nat.reduceAdd, Int.reduceLE, Int.reduceLT, Int.reduceToNat, rsx, g_s, g_s_ne, RunS.al H3]
    refine callV_fn (rLoad H3 (node_iN P _ _) O.st fun h4 H4 u4 => ?_)
    try simp +decide only [nilC, bsx, Nat.reduceAdd, Int.reduceLE, Int.reduceLT, Int.reduceToNat, rsx, g_s, g_s_ne, RunS.al H4]
    exact RunS.stR (i := 4) H4 rfl u4 fun h5 H5 => RunS.stP H5 fun h6 H6 => k h6 (RunS.drp (RunS.none H6))
  rw [if_neg c] at k
  exact k h1 (RunS.drp (RunS.none H1))
theorem srMark_call (H : Sat h (RunS M T tv (some (b, o)) x R)) (O : Ok x) (k : ∀ h', Sat h' (RunS M T tv none (srMark x) R) → K (.tuple #[]) h') :
    CallH Tryz.prog 77 #[rV M T b o] h K := by
  refine call77 ?_
  unfold F77 g77 cf ce bd lP lI nP
  have B := RunS.fB H
  have P := RunS.pl H
  unfold srMark at k
  dsimp only at k
  have H1 := RunS.new H (.cells #[mP M, mP T, fP b o] 103); generalize h.push (.cells #[mP M, mP T, fP b o] 103) = h1 at *; generalize h.size = N at *
  try simp +decide only [nilC, bsx, Nat.reduceAdd, Int.reduceLE, Int.reduceLT, Int.reduceToNat, rsx, g_s, g_s_ne, RunS.al H1]
  refine ifB_dec (fun c => ?_) (fun c => ?_)
  · rw [if_pos c] at k
    refine ifB_dec (fun c2 => ?_) (fun c2 => ?_)
    · rw [if_pos c2] at k
      refine RunS.stP H1 fun h2 H2 => ?_
      try simp +decide only [nilC, bsx, Nat.reduceAdd, Int.reduceLE, Int.reduceLT, Int.reduceToNat, rsx, g_s, g_s_ne, RunS.al H2]
      refine ifB_dec (fun c3 => ?_) (fun c3 => ?_)
      · rw [if_pos c3] at k
        exact RunS.stP H2 fun h3 H3 => k h3 (pc_pc x 9 11 ▸ RunS.drp (RunS.none H3))
      · rw [if_neg c3] at k
        exact k h2 (RunS.drp (RunS.none H2))
    rw [if_neg c2] at k
    refine callV_fn (suLink_call H1 fun h3 o3 => ?_)
    have H3 := RunS.old H1 o3
    try simp +decide only [nilC, bsx, Nat.reduceAdd, Int.reduceLE, Int.reduceLT, Int.reduceToNat, rsx, g_s, g_s_ne, RunS.al H3, nlink_u]
    refine callV_fn (rLoad H3 (node_iN P _ _) O.st fun h4 H4 u4 => ?_)
    try simp +decide only [nilC, bsx, Nat.reduceAdd, Int.reduceLE, Int.reduceLT, Int.reduceToNat, rsx, g_s, g_s_ne, RunS.al H4]
    refine RunS.stR (i := 5) H4 rfl u4 fun h5 H5 => RunS.stP H5 fun h6 H6 => ?_
    try simp +decide only [nilC, bsx, Nat.reduceAdd, Int.reduceLE, Int.reduceLT, Int.reduceToNat, rsx, g_s, g_s_ne, RunS.al H6, B.len]
    refine callV_fn (suMark_call u4 ?_)
    try simp +decide only [nilC, bsx, Nat.reduceAdd, Int.reduceLE, Int.reduceLT, Int.reduceToNat, rsx, g_s, g_s_ne, RunS.al H6]
    refine ifB_mk (fun c3 => ?_) (fun c3 => ?_)
    · rw [if_pos c3] at k
      refine RunS.stR (i := 4) H6 rfl (u64_U _) fun h7 H7 => ?_
      try simp +decide only [nilC, bsx, Nat.reduceAdd, Int.reduceLE, Int.reduceLT, Int.reduceToNat, rsx, g_s, g_s_ne, RunS.al H7]
      exact RunS.stP H7 fun h8 H8 => k h8 (RunS.drp (RunS.none H8))
    · rw [if_neg (by rw [c3]; simp)] at k
      exact k h6 (RunS.drp (RunS.none H6))
  rw [if_neg c] at k
  refine ifB_dec (fun c => ?_) (fun c => ?_)
  · rw [if_pos c] at k
    refine RunS.stP H1 fun h2 H2 => ?_
    try simp +decide only [nilC, bsx, Nat.reduceAdd, Int.reduceLE, Int.reduceLT, Int.reduceToNat, rsx, g_s, g_s_ne, RunS.al H2]
    refine callV_fn (suLink_call H2 fun h3 o3 => ?_)
    have H3 := RunS.old H2 o3
    try simp +decide only [nilC, bsx, Nat.reduceAdd, Int.reduceLE, Int.reduceLT, Int.reduceToNat, rsx, g_s, g_s_ne, RunS.al H3, nlink_u]
    refine callV_fn (wMarked_call (B.g 5) ?_)
    try simp +decide only [nilC, bsx, Nat.reduceAdd, Int.reduceLE, Int.reduceLT, Int.reduceToNat, rsx, g_s, g_s_ne, RunS.al H3]
    refine callV_fn (rCas H3 (node_iN P _ _) wNext_U O.st fun h4 H4 => ?_)
    try simp +decide only [nilC, bsx, Nat.reduceAdd, Int.reduceLE, Int.reduceLT, Int.reduceToNat, rsx, g_s, g_s_ne, RunS.al H4]
    refine ifB_mk (fun c2 => ?_) (fun c2 => ?_)
    · rw [if_pos c2] at k
      exact RunS.stR (i := 4) H4 rfl (u64_U _) fun h5 H5 => k h5 (RunS.drp (RunS.none H5))
    · rw [if_neg (by rw [c2]; simp)] at k
      exact k h4 (RunS.drp (RunS.none H4))
  rw [if_neg c] at k
  exact k h1 (RunS.drp (RunS.none H1))
theorem srLeave_call (H : Sat h (RunS M T tv (some (b, o)) x R)) (O : Ok x) (k : ∀ h', Sat h' (RunS M T tv none (srLeave x) R) → K (.tuple #[]) h') :
    CallH Tryz.prog 78 #[rV M T b o] h K := by
  refine call78 ?_
  unfold F78 g78 cf ce bd lP lI nP
  have B := RunS.fB H
  have P := RunS.pl H
  have hd := O.fr
  unfold srLeave at k
  dsimp only at k
  have H1 := RunS.new H (.cells #[mP M, mP T, fP b o] 103); generalize h.push (.cells #[mP M, mP T, fP b o] 103) = h1 at *; generalize h.size = N at *
  try simp +decide only [nilC, bsx, Nat.reduceAdd, Int.reduceLE, Int.reduceLT, Int.reduceToNat, rsx, g_s, g_s_ne, RunS.al H1]
  refine ifB_dec (fun c => ?_) (fun c => ?_)
  · rw [if_pos c] at k
    refine callV_fn (suLink_call H1 fun h3 o3 => ?_)
    have H3 := RunS.old H1 o3
    try simp +decide only [nilC, bsx, Nat.reduceAdd, Int.reduceLE, Int.reduceLT, Int.reduceToNat, rsx, g_s, g_s_ne, RunS.al H3]
    refine callV_fn (rLoad H3 (node_iN P _ _) O.st fun h4 H4 u4 => ?_)
    try simp +decide only [nilC, bsx, Nat.reduceAdd, Int.reduceLE, Int.reduceLT, Int.reduceToNat, rsx, g_s, g_s_ne, RunS.al H4]
    exact RunS.stR (i := 5) H4 rfl u4 fun h5 H5 => RunS.stP H5 fun h6 H6 => k h6 (RunS.drp (RunS.none H6))
  rw [if_neg c] at k
  refine ifB_dec (fun c => ?_) (fun c => ?_)
  · rw [if_pos c] at k
    refine callV_fn (suLink_call H1 fun h3 o3 => ?_)
    have H3 := RunS.old H1 o3
    try simp +decide only [nilC, bsx, Nat.reduceAdd, Int.reduceLE, Int.reduceLT, Int.reduceToNat, rsx, g_s, g_s_ne, RunS.al H3]
    refine callV_fn (suPtr_call (B.g 5) ?_)
    try simp +decide only [nilC, bsx, Nat.reduceAdd, Int.reduceLE, Int.reduceLT, Int.reduceToNat, rsx, g_s, g_s_ne, RunS.al H3]
    refine callV_fn (suSwing_call H3 (node_iN P _ _) (B.g 0) O.st fun h4 H4 => ?_)
    try simp +decide only [nilC, bsx, Nat.reduceAdd, Int.reduceLE, Int.reduceLT, Int.reduceToNat, rsx, g_s, g_s_ne, RunS.al H4]
    exact RunS.stP H4 fun h6 H6 => k h6 (RunS.drp (RunS.none H6))
  rw [if_neg c] at k
  refine ifB_dec (fun c => ?_) (fun c => ?_)
  · rw [if_pos c] at k
    refine callV_fn (suDrop_call H1 O.st fun h2 H2 => ?_)
    try simp +decide only [nilC, bsx, Nat.reduceAdd, Int.reduceLE, Int.reduceLT, Int.reduceToNat, rsx, g_s, g_s_ne, RunS.al H2]
    refine ifB_mk (fun c3 => ?_) (fun c3 => ?_)
    · rw [if_pos c3] at k
      have ef : (x.drop1 (x.f.g 1)).2.f = x.f := rfl
      try simp +decide only [nilC, bsx, Nat.reduceAdd, Int.reduceLE, Int.reduceLT, Int.reduceToNat, rsx, g_s, g_s_ne, RunS.al H2, ef]
      exact callV_fn (suCallN H2 [x.f.g 2] rfl (one_U (B.g 2)) rfl (show x.t.fr.length < _ by omega) fun h4 b' o' _ _ H4 => k h4 (RunS.drp (RunS.none H4)))
    · rw [if_neg (by rw [c3]; simp)] at k
      exact RunS.stP H2 fun h5 H5 => k h5 (RunS.drp (RunS.none H5))
  rw [if_neg c] at k
  refine ifB_dec (fun c => ?_) (fun c => ?_)
  · rw [if_pos c] at k
    exact callV_fn (suCallN H1 [x.f.g 1] rfl (one_U (B.g 1)) rfl (by omega) fun h4 b' o' _ _ H4 => k h4 (RunS.drp (RunS.none H4)))
  · rw [if_neg c] at k
    exact callV_fn (srPair_call H1 (by omega) fun h6 H6 => k h6 (RunS.drp H6))
theorem srStep_call (H : Sat h (RunS M T tv (some (b, o)) x R)) (O : Ok x) (k : ∀ h', Sat h' (RunS M T tv none (srStep x) R) → K (.tuple #[]) h') :
    CallH Tryz.prog 46 #[rV M T b o] h K := by
  refine call46 ?_
  unfold F46 g46 cf lP lI nP
  unfold srStep at k
  have H1 := RunS.new H (.cells #[mP M, mP T, fP b o] 103); generalize h.push (.cells #[mP M, mP T, fP b o] 103) = h1 at *; generalize h.size = N at *
  try simp +decide only [nilC, bsx, Nat.reduceAdd, Int.reduceLE, Int.reduceLT, Int.reduceToNat, rsx, g_s, g_s_ne, RunS.al H1]
  refine ifB_dec (fun c => ?_) (fun c => ?_)
  · rw [if_pos c] at k
    exact callV_fn (srLook_call H1 O fun h2 H2 => k h2 (RunS.drp H2))
  rw [if_neg c] at k
  refine ifB_dec (fun c => ?_) (fun c => ?_)
  · rw [if_pos c] at k
    exact callV_fn (srBury_call H1 O fun h2 H2 => k h2 (RunS.drp H2))
  rw [if_neg c] at k
  refine ifB_dec (fun c => ?_) (fun c => ?_)
  · rw [if_pos c] at k
    exact callV_fn (srMark_call H1 O fun h2 H2 => k h2 (RunS.drp H2))
  rw [if_neg c] at k
  exact callV_fn (srLeave_call H1 O fun h2 H2 => k h2 (RunS.drp H2))
theorem sundellDo_call (H : Sat h (RunS M T tv fo x R)) (O : Ok x) (hf : FOk x) (hS : x.f.fn = 21 → SiOk x) (k : ∀ h', Sat h' (RunS M T tv none (sundellDo x) R) → K (.tuple #[]) h') :
    CallH Tryz.prog 22 #[mP M, mP T] h K := by
  refine call22 ?_
  unfold F22 cf bd lI nP
  unfold sundellDo at k
  dsimp only at k
  refine callV_fn (rTop H (fun e => ?_) fun b o hne _ H1 => ?_)
  · rw [if_pos e] at k
    try simp only [nilC, bsx, Nat.reduceAdd, Int.reduceLE, Int.reduceLT, Int.reduceToNat]
    refine ⟨fun vs h' => vs = [.bool true] ∧ h' = h, ⟨rfl, rfl⟩, ?_⟩
    rintro v4 g6 h7 ⟨e, rfl⟩
    cases e
    try simp only [nilC, bsx, Nat.reduceAdd, Int.reduceLE, Int.reduceLT, Int.reduceToNat]
    exact k _ (RunS.none H)
  · rw [if_neg hne] at k
    try simp only [nilC, bsx, Nat.reduceAdd, Int.reduceLE, Int.reduceLT, Int.reduceToNat]
    refine ⟨fun vs h' => vs = [.bool false] ∧ h' = h, ⟨rfl, rfl⟩, ?_⟩
    rintro v4 g6 h7 ⟨e, rfl⟩
    cases e
    have B := RunS.fB H1
    try simp only [nilC, bsx, Nat.reduceAdd, Int.reduceLE, Int.reduceLT, Int.reduceToNat]
    have H2 := RunS.new H1 (.cells #[.pointer none, .pointer none, .pointer none] 96)
    generalize h7.push (.cells #[.pointer none, .pointer none, .pointer none] 96) = h2 at *
    generalize h7.size = N at *
    refine st3 (stN_full (vs := [mP M, mP T, fP b o]) (RunS.loc H2) rfl (by simp [oneC]) fun h3 w => ?_)
    have H3 := RunS.wr H2 w.new w.old
    clear H2 w
    try simp +decide only [nilC, bsx, Nat.reduceAdd, Int.reduceLE, Int.reduceLT, Int.reduceToNat, rsx, g_s, g_s_ne, RunS.al H3]
    refine ⟨fun vs h' => (∃ w, vs = [.bool (decide (x.f.fn < 21 ∨ 23 < x.f.fn)), w]) ∧ h' = h3, ?_, ?_⟩
    · refine ifB_dec (fun c => ?_) (fun c => ?_)
      · rw [decide_eq_true (p := x.f.fn < 21 ∨ 23 < x.f.fn) (by omega)]
        exact ⟨⟨_, rfl⟩, by trivial⟩
      · rw [show decide (x.f.fn > 23) = decide (x.f.fn < 21 ∨ 23 < x.f.fn) by rw [decide_eq_decide]; omega]
        exact ⟨⟨_, rfl⟩, by trivial⟩
    rintro v18 v19 g20 h21 ⟨⟨w, e⟩, rfl⟩
    cases e
    try simp +decide only [nilC, bsx, Nat.reduceAdd, Int.reduceLE, Int.reduceLT, Int.reduceToNat, rsx, g_s, g_s_ne, RunS.al H3]
    refine ifB_dec (fun c => ?_) (fun c => ?_)
    · rw [if_pos c] at k
      exact callV_fn (findDo_call H3 O hf fun h4 H4 => k h4 (RunS.drp H4))
    rw [if_neg c] at k
    refine ifB_dec (fun c => ?_) (fun c => ?_)
    · rw [if_pos c] at k
      exact callV_fn (popN H3 [x.f.g 7, x.f.g 8, x.f.g 9] rfl (three_U (B.g 7) (B.g 8) (B.g 9)) rfl fun h4 H4 => k h4 (RunS.drp H4))
    rw [if_neg c] at k
    refine ifB_dec (fun c => ?_) (fun c => ?_)
    · rw [if_pos c] at k
      exact callV_fn (siStep_call H3 O (hS c) fun h4 H4 => k h4 (RunS.drp H4))
    rw [if_neg c] at k
    exact callV_fn (srStep_call H3 O fun h4 H4 => k h4 (RunS.drp H4))
end
end
section
open Mod
section
variable {K : Value → Heap → Prop} {h : Heap} {M T b o N : Nat} {tv : Value} {fo : Option (Nat × Nat)} {x : Run} {R : Hp}
end
end
section
open Mod
section
variable {K : Value → Heap → Prop} {h : Heap} {M T b o N : Nat} {tv : Value} {fo : Option (Nat × Nat)} {x : Run} {R : Hp}
end
end
section
open Mod
theorem bits_det {d : Run → Run} : ∀ {n m : Nat} {x z w : Run}, Mod.bits d n x = some z → Mod.bits d m x = some w → z = w
  | 0, 0, x, z, w, h1, h2 => by
    rw [h1] at h2; exact Option.some.inj h2
  | 0, m + 1, x, z, w, h1, h2 => by
    unfold Mod.bits at h1 h2
    split at h1
    · rename_i c
      rw [if_pos c] at h2
      rw [h1] at h2; exact Option.some.inj h2
    · cases h1
  | n + 1, 0, x, z, w, h1, h2 => by
    unfold Mod.bits at h1 h2
    split at h2
    · rename_i c
      rw [if_pos c] at h1
      rw [h1] at h2; exact Option.some.inj h2
    · cases h2
  | n + 1, m + 1, x, z, w, h1, h2 => by
    unfold Mod.bits at h1 h2
    split at h1
    · rename_i c
      rw [if_pos c] at h2
      rw [h1] at h2; exact Option.some.inj h2
    · rename_i c
      rw [if_neg c] at h2
      exact bits_det h1 h2
open Classical in
noncomputable def stepF (d : Run → Run) (x : Run) : Run := if h : ∃ z, ∃ n, Mod.bits d n x = some z then h.choose else x
theorem stepF_eq {d : Run → Run} {n : Nat} {x z : Run} (h : Mod.bits d n x = some z) : stepF d x = z := by
  have hh : ∃ z, ∃ n, Mod.bits d n x = some z := ⟨z, n, h⟩
  unfold stepF
  rw [dif_pos hh]
  obtain ⟨m, hm⟩ := hh.choose_spec
  exact bits_det hm h
def thrAt (m : Mac) (k : Nat) : Thr := m.th.getD k (thr0 m.p.c)
def ansOf (t : Thr) : Cl := ⟨s64 (t.ret.getD 0 0), u32 (t.ret.getD 1 0), u32 (t.ret.getD 2 0)⟩
def cl0 : Cl := ⟨0, 0, 0⟩
def DS.enter (ins : Int) (calls : List (List Cl)) (s : DS) (k : Nat) : Option DS :=
  if (thrAt s.m k).fr = [] then
    if (calls.getD k []).length ≤ (s.nx.getD k 0).toNat then none
    else some ⟨s.m.setTh (s.m.th.set k ((thrAt s.m k).push (ins + ((calls.getD k []).getD (s.nx.getD k 0).toNat cl0).op) [((calls.getD k []).getD (s.nx.getD k 0).toNat cl0).key, ((calls.getD k []).getD (s.nx.getD k 0).toNat cl0).val])), s.nx.set k (s.nx.getD k 0 + 1), s.cu.set k ((calls.getD k []).getD (s.nx.getD k 0).toNat cl0), s.ev ++ [⟨k, false, (calls.getD k []).getD (s.nx.getD k 0).toNat cl0, cl0⟩]⟩
  else some s
noncomputable def DS.go (d : Run → Run) (s : DS) (k : Nat) : DS :=
  if (stepF d ⟨s.m.quiet, thrAt s.m k, k⟩).t.fr = [] then ⟨(stepF d ⟨s.m.quiet, thrAt s.m k, k⟩).m.setTh (s.m.th.set k (stepF d ⟨s.m.quiet, thrAt s.m k, k⟩).t), s.nx, s.cu, s.ev ++ [⟨k, true, cl0, ansOf (stepF d ⟨s.m.quiet, thrAt s.m k, k⟩).t⟩]⟩
  else ⟨(stepF d ⟨s.m.quiet, thrAt s.m k, k⟩).m.setTh (s.m.th.set k (stepF d ⟨s.m.quiet, thrAt s.m k, k⟩).t), s.nx, s.cu, s.ev⟩
noncomputable def DS.pick (d : Run → Run) (ins : Int) (calls : List (List Cl)) (s : DS) (k : Int) : DS := match s.enter ins calls k.toNat with
  | none => s
  | some s1 => s1.go d k.toNat
noncomputable def driveM (d : Run → Run) (ins : Int) (calls : List (List Cl)) (m : Mac) (picks : List Int) : DS := picks.foldl (fun s k => s.pick d ins calls k) ⟨m, List.replicate calls.length 0, List.replicate calls.length cl0, []⟩
structure GoodI (d : Run → Run) (W : Run → Prop) (ins : Int) (Inv : Nat → Mac → Prop) : Prop where
  mono : ∀ (i : Nat) (m : Mac), Inv i m → Inv (i + 1) m
  wd : ∀ i m, Inv i m → WdOk m ∧ 2 < m.mm.w.length
  push : ∀ (i : Nat) (m : Mac) (k : Nat) (t : Thr) (c : Cl), Inv i m → m.th[k]? = some t → t.fr = [] → 0 ≤ c.op ∧ c.op ≤ 2 → V c.key → V c.val → Inv i (m.setTh (m.th.set k (t.push (ins + c.op) [c.key, c.val])))
  step : ∀ (i : Nat) (m : Mac) (k : Nat) (t : Thr), Inv i m → i < 100000 → m.th[k]? = some t → t.fr ≠ [] → ∃ n z, Mod.bits d n ⟨m.quiet, t, k⟩ = some z ∧ Safe d W n ⟨m.quiet, t, k⟩ ∧ z.id = k ∧ z.m.th = m.th ∧ Inv (i + 1) (z.m.setTh (m.th.set k z.t))
structure ScrF (h : Heap) (ca : Option Addr) (cl : Nat) (pa : Option Addr) (pl : Nat) (calls : List (List Cl)) (picks : List Int) : Prop where
  cs : cl = calls.length
  row : ∀ i, i < calls.length → ∃ a c, (∃ ad, ca = some ad ∧ cellAt h (ad.add i) = some (.slice a (calls.getD i []).length c)) ∧ Sees h a ((calls.getD i []).flatMap clc)
  ps : pl = picks.length
  pk : Sees h pa (picks.map iv)
structure ScrOk (calls : List (List Cl)) (picks : List Int) : Prop where
  n : 1 ≤ calls.length ∧ calls.length ≤ 6
  cl : ∀ l ∈ calls, l.length ≤ 1000 ∧ ∀ c ∈ l, (0 ≤ c.op ∧ c.op ≤ 2) ∧ V c.key ∧ V c.val
  pk : picks.length ≤ 60000 ∧ ∀ k ∈ picks, 0 ≤ k ∧ k < calls.length
theorem fitsCl_call {K : Value → Heap → Prop} {h : Heap} {c a : Cl} (k : ∀ h', Old h.size h h' → K (.bool (fitsB ⟨c.op, c.key, c.val⟩ ⟨a.op, a.key, a.val⟩)) h') :
    CallH Tryz.prog 48 #[.agg #[.int .i64 c.op, .int .u32 c.key, .int .u32 c.val], .agg #[.int .i64 a.op, .int .u32 a.key, .int .u32 a.val]] h K :=
  refFits_call (c := ⟨c.op, c.key, c.val⟩) (a := ⟨a.op, a.key, a.val⟩) k
theorem make_bl {K : Value → Heap → Prop} {h : Heap} {n : Nat} (hn : n ≤ 4096) (k : K (.slice (some ⟨h.size, 0, none⟩) n n) (h.push (.cells ((List.replicate n false).map bv).toArray 4))) : mkSlH Tryz.prog 4 (n : Int) (n : Int) h K := by
  have e1 : zcells Tryz.prog 4 = [.bool false] := by kernel_rfl
  have e2 : byt Tryz.prog 4 = 1 := by kernel_rfl
  unfold mkSlH
  refine ⟨by omega, by omega, by omega, by rw [e2]; omega, ?_⟩
  rw [e1, flat_rep, Int.toNat_natCast]
  rw [List.map_replicate] at k
  exact k
theorem make_cl {K : Value → Heap → Prop} {h : Heap} {n : Nat} (hn : n ≤ 4096) (k : K (.slice (some ⟨h.size, 0, none⟩) n n) (h.push (.cells ((List.replicate n cl0).flatMap clc).toArray 53))) : mkSlH Tryz.prog 53 (n : Int) (n : Int) h K := by
  have e1 : zcells Tryz.prog 53 = clc cl0 := by kernel_rfl
  have e2 : byt Tryz.prog 53 = 16 := by kernel_rfl
  unfold mkSlH
  refine ⟨by omega, by omega, by omega, by rw [e2]; omega, ?_⟩
  rw [e1, Int.toNat_natCast]
  rw [List.flatMap_def, List.map_replicate] at k
  exact k
structure DOk (Inv : Nat → Mac → Prop) (calls : List (List Cl)) (j : Nat) (s : DS) : Prop where
  inv : Inv j s.m
  th : s.m.th.length = calls.length
  nx : ∀ k, k < calls.length → 0 ≤ s.nx.getD k 0 ∧ s.nx.getD k 0 ≤ (calls.getD k []).length
  ev : s.ev.length ≤ 2 * j
section
variable {K : Value → Heap → Prop} {h : Heap} {M : Nat} {B : DB} {Ts : List Nat} {R : Hp} {d : Run → Run} {W : Run → Prop} {ins : Int} {Inv : Nat → Mac → Prop} {calls : List (List Cl)}
theorem drvS_push {s : DS} (H : Sat h (drvS B M Ts calls.length s * R)) {k T : Nat} {c : Cl} (hk : Ts[k]? = some T) (hth : s.m.th.length = calls.length) (hk2 : k < calls.length) (he : (thrAt s.m k).fr = []) (hc : U c.key) (hv : U c.val) (F : Value → Heap → Prop)
    (kk : ∀ h', Sat h' (drvS B M Ts calls.length { s with m := s.m.setTh (s.m.th.set k ((thrAt s.m k).push (ins + c.op) [c.key, c.val])) } * R) → F (.tuple #[]) h') :
    CallH Tryz.prog 38 #[mP T, .int .i64 (ins + c.op), .slice (some ⟨h.size, 0, none⟩) 2 2] (h.push (.cells #[.int .u64 c.key, .int .u64 c.val] 65)) F := by
  obtain ⟨Q, H1, re⟩ := drvS_mac H
  have hlt : k < s.m.th.length := by omega
  have ht : s.m.th[k]? = some (thrAt s.m k) := by unfold thrAt; rw [List.getElem?_eq_getElem hlt]; simp [hlt]
  obtain ⟨tv, Q2, H2, re2⟩ := machS_take H1 hk ht
  refine rPushN H2 [c.key, c.val] rfl (two_U hc hv) (by omega) (by show (thrAt s.m k).fr.length < _; rw [he]; decide) fun h' b o _ _ H3 => kk h' ?_
  exact re _ _ _ (re2 _ _ _ rfl (RunS.none H3))
theorem drvS_step {f : Nat} (D : DoC f d W) (G : GoodI d W ins Inv) {s : DS} {j : Nat} (H : Sat h (drvS B M Ts calls.length s * R)) {k T : Nat} (hk : Ts[k]? = some T) (hth : s.m.th.length = calls.length) (hk2 : k < calls.length) (hI : Inv j s.m) (hj : j < 100000) (hne : (thrAt s.m k).fr ≠ []) (F : Value → Heap → Prop)
    (kk : ∀ h' z, z = stepF d ⟨s.m.quiet, thrAt s.m k, k⟩ → Inv (j + 1) (z.m.setTh (s.m.th.set k z.t)) → Sat h' (drvS B M Ts calls.length { s with m := z.m.setTh (s.m.th.set k z.t) } * R) → F (.bool (!z.t.fr.isEmpty)) h') :
    CallH Tryz.prog 40 #[mP M, .int .i64 k, .func (.func f) #[] #[]] h F := by
  obtain ⟨Q, H1, re⟩ := drvS_mac H
  have hlt : k < s.m.th.length := by omega
  have ht : s.m.th[k]? = some (thrAt s.m k) := by unfold thrAt; rw [List.getElem?_eq_getElem hlt]; simp [hlt]
  obtain ⟨n, z, hb, hs, hid, _, hI2⟩ := G.step j s.m k _ hI hj ht hne
  refine stepLoop_call D H1 (n := n) (z := z) (i := k) (by omega) (by rw [Int.toNat_natCast]; exact ht) hb hs hid fun h' H2 => ?_
  rw [Int.toNat_natCast] at H2
  exact kk h' z (stepF_eq hb).symm hI2 (re _ _ _ H2)
theorem drvS_room (G : GoodI d W ins Inv) {s : DS} {j : Nat} {n : Nat} (H : Sat h (drvS B M Ts n s * R)) (hI : Inv j s.m) {c : Mod.Cf} {F : Value → Heap → Prop} (kk : ∀ h' b, Sat h' (drvS B M Ts n s * R) → F (.bool b) h') :
    CallH Tryz.prog 47 #[mP M, cfV c] h F := by
  obtain ⟨Q, H1, re⟩ := drvS_mac H
  obtain ⟨a, cc, hl, H2⟩ := machS_iff.1 H1
  obtain ⟨w1, w2⟩ := G.wd j s.m hI
  exact room_call H2 w1 w2 fun h' b H3 => kk h' b (re h' s.m R (machS_iff.2 ⟨a, cc, hl, H3⟩))
theorem drvS_fault {s : DS} {n : Nat} (H : Sat h (drvS B M Ts n s * R)) {F : Value → Heap → Prop} (kk : ∀ h', Sat h' (drvS B M Ts n s * R) → F (.bool s.m.fault) h') :
    CallH Tryz.prog 39 #[mP M] h F := by
  obtain ⟨Q, H1, re⟩ := drvS_mac H
  obtain ⟨a, cc, hl, H2⟩ := machS_iff.1 H1
  exact fault_call H2 fun h' H3 => kk h' (re h' s.m R (machS_iff.2 ⟨a, cc, hl, H3⟩))
theorem drvS_answer {s : DS} {n : Nat} (H : Sat h (drvS B M Ts n s * R)) {k T : Nat} (hk : Ts[k]? = some T) (hlt : k < s.m.th.length) {F : Value → Heap → Prop}
    (kk : ∀ h', Sat h' (drvS B M Ts n s * R) → F (.agg #[.int .i64 (ansOf (thrAt s.m k)).op, .int .u32 (ansOf (thrAt s.m k)).key, .int .u32 (ansOf (thrAt s.m k)).val]) h') :
    CallH Tryz.prog 41 #[mP T] h F := by
  obtain ⟨Q, H1, re⟩ := drvS_mac H
  have ht : s.m.th[k]? = some (thrAt s.m k) := by unfold thrAt; rw [List.getElem?_eq_getElem hlt]; simp [hlt]
  obtain ⟨tv, Q2, H2, re2⟩ := machS_take H1 hk ht
  refine answer_call (RunS.thr H2) fun h' H3 => kk h' ?_
  have H4 := re h' _ R (re2 h' ⟨s.m, thrAt s.m k, k⟩ (Q * R) rfl (RunS.ofThr H3))
  have e : s.m.setTh (s.m.th.set k (thrAt s.m k)) = s.m := by
    unfold Mod.Mac.setTh
    have : s.m.th.set k (thrAt s.m k) = s.m.th := by
      apply List.ext_getElem (by simp)
      intro i h1 h2
      rw [List.getElem_set]
      split
      · rename_i e; subst e; exact (List.getElem?_eq_some_iff.1 ht).2.symm ▸ rfl
      · rfl
    rw [this]
  have H4 : Sat h' (drvS B M Ts n { s with m := s.m.setTh (s.m.th.set k (thrAt s.m k)) } * R) := H4
  rw [e] at H4
  exact H4
theorem drvS_top {s : DS} {n : Nat} (H : Sat h (drvS B M Ts n s * R)) {k T : Nat} (hk : Ts[k]? = some T) (hlt : k < s.m.th.length) {F : Value → Heap → Prop} (k0 : (thrAt s.m k).fr = [] → F (.pointer none) h) (k1 : ∀ b o, (thrAt s.m k).fr ≠ [] → F (.pointer (some ⟨b, o, none⟩)) h) :
    CallH Tryz.prog 42 #[mP T] h F := by
  obtain ⟨Q, H1, re⟩ := drvS_mac H
  have ht : s.m.th[k]? = some (thrAt s.m k) := by unfold thrAt; rw [List.getElem?_eq_getElem hlt]; simp [hlt]
  obtain ⟨tv, Q2, H2, re2⟩ := machS_take H1 hk ht
  exact rTop H2 (fun e => k0 e) fun b o hne _ _ => k1 b o hne
end
end
end Go.Proofs.YtglgifgoojncpaaGreat
