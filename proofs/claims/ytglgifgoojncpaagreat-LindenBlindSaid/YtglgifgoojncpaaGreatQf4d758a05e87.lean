/- Part 11 of what the proofs of this seat rest on: see the last text of the claim. -/
import Derived.Test.YtglgifgoojncpaaGreatQ0e33cc153e47
set_option linter.unusedSimpArgs false
set_option linter.unusedVariables false
set_option linter.ambiguousOpen false
set_option maxRecDepth 20000
namespace Go.Proofs.YtglgifgoojncpaaGreat
section
open Mod
section
variable {K : Value → Heap → Prop} {h : Heap} {M T b o N : Nat} {tv : Value} {fo : Option (Nat × Nat)} {x : Run} {R : Hp}
theorem pc_s_pc (x : Run) (i j : Int) (n : Nat) (v : Int) : ((x.pc i).s n v).pc j = (x.s n v).pc j := by
  show ((x.pc i).setF ((x.pc i).f.s n v)).setF (((x.pc i).setF ((x.pc i).f.s n v)).f.at j) = (x.setF (x.f.s n v)).setF ((x.setF (x.f.s n v)).f.at j)
  rw [f_setF, f_setF, f_pc]
  unfold Run.pc Run.setF Thr.setTop
  simp [Frm.at, Frm.s]
theorem tdStep_call (H : Sat h (RunS M T tv (some (b, o)) x R)) (O : Ok x) (k : ∀ h', Sat h' (RunS M T tv none (tdStep x) R) → K (.tuple #[]) h') :
    CallH Tryz.prog 57 #[rV M T b o] h K := by
  refine call57 ?_
  unfold F57 g57 cf ce bd lP lI nP
  have B := RunS.fB H
  have P := RunS.pl H
  unfold tdStep at k
  dsimp only at k
  have H1 := RunS.new H (.cells #[mP M, mP T, fP b o] 121); generalize h.push (.cells #[mP M, mP T, fP b o] 121) = h1 at *; generalize h.size = N at *
  try simp +decide only [nilC, bsx, Nat.reduceAdd, Int.reduceLE, Int.reduceLT, Int.reduceToNat, rsx, g_s, g_s_ne, RunS.al H1]
  refine ifB_dec (fun c => ?_) (fun c => ?_)
  · rw [if_pos c] at k
    refine callV_fn (lnLink_call H1 fun h2 o2 => ?_)
    have H2 := RunS.old H1 o2
    try simp +decide only [nilC, bsx, Nat.reduceAdd, Int.reduceLE, Int.reduceLT, Int.reduceToNat, rsx, g_s, g_s_ne, RunS.al H2]
    refine callV_fn (rLoad H2 (node_iN P _ _) O.st fun h3 H3 u3 => ?_)
    try simp +decide only [nilC, bsx, Nat.reduceAdd, Int.reduceLE, Int.reduceLT, Int.reduceToNat, rsx, g_s, g_s_ne, RunS.al H3]
    refine RunS.stR (i := 0) H3 rfl u3 fun h4 H4 => ?_
    try simp +decide only [nilC, bsx, Nat.reduceAdd, Int.reduceLE, Int.reduceLT, Int.reduceToNat, rsx, g_s, g_s_ne, RunS.al H4, B.len]
    refine callV_fn (lnPtr_call u3 ?_)
    try simp +decide only [nilC, bsx, Nat.reduceAdd, Int.reduceLE, Int.reduceLT, Int.reduceToNat, rsx, g_s, g_s_ne, RunS.al H4, B.len]
    refine callV_fn (lnPtr_call u3 ?_)
    try simp +decide only [nilC, bsx, Nat.reduceAdd, Int.reduceLE, Int.reduceLT, Int.reduceToNat, rsx, g_s, g_s_ne, RunS.al H4, B.len]
    refine RunS.stR (i := 1) H4 rfl (wptr_U _) fun h5 H5 => ?_
    try simp +decide only [nilC, bsx, Nat.reduceAdd, Int.reduceLE, Int.reduceLT, Int.reduceToNat, rsx, g_s, g_s_ne, RunS.al H5]
    refine RunS.stR (i := 2) H5 rfl (wptr_U _) fun h6 H6 => ?_
    try simp +decide only [nilC, bsx, Nat.reduceAdd, Int.reduceLE, Int.reduceLT, Int.reduceToNat, rsx, g_s, g_s_ne, RunS.al H6]
    refine RunS.stP H6 fun h7 H7 => ?_
    try simp +decide only [nilC, bsx, Nat.reduceAdd, Int.reduceLE, Int.reduceLT, Int.reduceToNat, rsx, g_s, g_s_ne, RunS.al H7, B.len]
    refine callV_fn (lnMark_call u3 ?_)
    try simp +decide only [nilC, bsx, Nat.reduceAdd, Int.reduceLE, Int.reduceLT, Int.reduceToNat, rsx, g_s, g_s_ne, RunS.al H7]
    refine ifB_mk (fun c2 => ?_) (fun c2 => ?_)
    · rw [if_neg (by simpa using c2)] at k
      have hd := O.fr
      have l0 : (x.load (x.nlink 1 0)).2.t.fr = x.t.fr := rfl
      have l1 := frl_s (x.load (x.nlink 1 0)).2 0 (x.load (x.nlink 1 0)).1
      have l2 := frl_s ((x.load (x.nlink 1 0)).2.s 0 (x.load (x.nlink 1 0)).1) 1 (wptr (x.load (x.nlink 1 0)).1)
      have l3 := frl_s (((x.load (x.nlink 1 0)).2.s 0 (x.load (x.nlink 1 0)).1).s 1 (wptr (x.load (x.nlink 1 0)).1)) 2 (wptr (x.load (x.nlink 1 0)).1)
      have l4 := frl_pc ((((x.load (x.nlink 1 0)).2.s 0 (x.load (x.nlink 1 0)).1).s 1 (wptr (x.load (x.nlink 1 0)).1)).s 2 (wptr (x.load (x.nlink 1 0)).1)) 1
      rw [l0] at l1
      exact callV_fn (lnDone_call H7 U0 (by omega) fun h8 b' o' H8 => k h8 (RunS.drp (RunS.none H8)))
    · rw [if_pos (by simpa using c2)] at k
      exact k h7 (RunS.drp (RunS.none H7))
  rw [if_neg c] at k
  refine ifB_dec (fun c => ?_) (fun c => ?_)
  · rw [if_pos c] at k
    refine callV_fn (lnLink_call H1 fun h2 o2 => ?_)
    have H2 := RunS.old H1 o2
    try simp +decide only [nilC, bsx, Nat.reduceAdd, Int.reduceLE, Int.reduceLT, Int.reduceToNat, rsx, g_s, g_s_ne, RunS.al H2]
    refine callV_fn (rLoad H2 (node_iN P _ _) O.st fun h3 H3 u3 => ?_)
    try simp +decide only [nilC, bsx, Nat.reduceAdd, Int.reduceLE, Int.reduceLT, Int.reduceToNat, rsx, g_s, g_s_ne, RunS.al H3]
    refine callV_fn (lnPtr_call u3 ?_)
    try simp +decide only [nilC, bsx, Nat.reduceAdd, Int.reduceLE, Int.reduceLT, Int.reduceToNat, rsx, g_s, g_s_ne, RunS.al H3]
    refine RunS.stR (i := 2) H3 rfl (wptr_U _) fun h4 H4 => ?_
    try simp +decide only [nilC, bsx, Nat.reduceAdd, Int.reduceLE, Int.reduceLT, Int.reduceToNat, rsx, g_s, g_s_ne, RunS.al H4]
    refine RunS.stP H4 fun h5 H5 => ?_
    try simp +decide only [nilC, bsx, Nat.reduceAdd, Int.reduceLE, Int.reduceLT, Int.reduceToNat, rsx, g_s, g_s_ne, RunS.al H5]
    refine callV_fn (lnMark_call u3 ?_)
    try simp +decide only [nilC, bsx, Nat.reduceAdd, Int.reduceLE, Int.reduceLT, Int.reduceToNat, rsx, g_s, g_s_ne, RunS.al H5]
    refine ifB_mk (fun c2 => ?_) (fun c2 => ?_)
    · rw [if_pos c2] at k
      refine callV_fn (lnPtr_call u3 ?_)
      try simp +decide only [nilC, bsx, Nat.reduceAdd, Int.reduceLE, Int.reduceLT, Int.reduceToNat, rsx, g_s, g_s_ne, RunS.al H5]
      refine RunS.stR (i := 1) H5 rfl (wptr_U _) fun h6 H6 => ?_
      try simp +decide only [nilC, bsx, Nat.reduceAdd, Int.reduceLE, Int.reduceLT, Int.reduceToNat, rsx, g_s, g_s_ne, RunS.al H6]
      exact RunS.stP H6 fun h90 H90 => k h90 (RunS.drp (RunS.none H90))
    · rw [if_neg (by rw [c2]; simp)] at k
      exact k h5 (RunS.drp (RunS.none H5))
  rw [if_neg c] at k
  refine ifB_dec (fun c => ?_) (fun c => ?_)
  · rw [if_pos c] at k
    have hd := O.fr
    exact callV_fn (lnCallN H1 [x.f.g 1] rfl (one_U (B.g 1)) rfl (by omega) fun h4 b' o' _ _ H4 => k h4 (RunS.drp (RunS.none H4)))
  rw [if_neg c] at k
  refine ifB_dec (fun c => ?_) (fun c => ?_)
  · rw [if_pos c] at k
    refine callV_fn (lnLink_call H1 fun h2 o2 => ?_)
    have H2 := RunS.old H1 o2
    try simp +decide only [nilC, bsx, Nat.reduceAdd, Int.reduceLE, Int.reduceLT, Int.reduceToNat, rsx, g_s, g_s_ne, RunS.al H2]
    refine callV_fn (lnSwing_call H2 (node_iN P _ _) (B.g 0) O.st fun h3 H3 => ?_)
    try simp +decide only [nilC, bsx, Nat.reduceAdd, Int.reduceLE, Int.reduceLT, Int.reduceToNat, rsx, g_s, g_s_ne, RunS.al H3]
    exact RunS.stP H3 fun h90 H90 => k h90 (RunS.drp (RunS.none H90))
  rw [if_neg c] at k
  refine ifB_dec (fun c => ?_) (fun c => ?_)
  · rw [if_pos c] at k
    have hd := O.fr
    refine callV_fn (lnPtr_call (B.g 0) ?_)
    try simp +decide only [nilC, bsx, Nat.reduceAdd, Int.reduceLE, Int.reduceLT, Int.reduceToNat, rsx, g_s, g_s_ne, RunS.al H1]
    exact callV_fn (lnCallN H1 [wptr (x.f.g 0), x.f.g 2] rfl (two_U (wptr_U _) (B.g 2)) rfl (by omega) fun h4 b' o' _ _ H4 => k h4 (RunS.drp (RunS.none H4)))
  rw [if_neg c] at k
  have hd := O.fr
  exact callV_fn (lnDone_call H1 U0 (by omega) fun h8 b' o' H8 => k h8 (RunS.drp (RunS.none H8)))
theorem ctStep_call (H : Sat h (RunS M T tv (some (b, o)) x R)) (O : Ok x) (k : ∀ h', Sat h' (RunS M T tv none (ctStep x) R) → K (.tuple #[]) h') :
    CallH Tryz.prog 58 #[rV M T b o] h K := by
  refine call58 ?_
  unfold F58 g58 cf ce bd lP lI nP
  have B := RunS.fB H
  have P := RunS.pl H
  unfold ctStep at k
  dsimp only at k
  have H1 := RunS.new H (.cells #[mP M, mP T, fP b o] 122); generalize h.push (.cells #[mP M, mP T, fP b o] 122) = h1 at *; generalize h.size = N at *
  try simp +decide only [nilC, bsx, Nat.reduceAdd, Int.reduceLE, Int.reduceLT, Int.reduceToNat, rsx, g_s, g_s_ne, RunS.al H1]
  refine ifB_dec (fun c => ?_) (fun c => ?_)
  · rw [if_pos c] at k
    refine callV_fn (rAdd H1 (by decide) O.st fun h2 H2 u2 => ?_)
    try simp +decide only [nilC, bsx, Nat.reduceAdd, Int.reduceLE, Int.reduceLT, Int.reduceToNat, rsx, g_s, g_s_ne, RunS.al H2]
    exact RunS.stP H2 fun h90 H90 => k h90 (RunS.drp (RunS.none H90))
  rw [if_neg c] at k
  refine ifB_dec (fun c => ?_) (fun c => ?_)
  · rw [if_pos c] at k
    refine ifB_dec (fun c2 => ?_) (fun c2 => ?_)
    · rw [if_pos c2] at k
      exact callV_fn (rPop H1 Args.none (by omega) fun h2 H2 => k h2 (RunS.drp H2))
    rw [if_neg c2] at k
    refine callV_fn (lnLink_call H1 fun h2 o2 => ?_)
    have H2 := RunS.old H1 o2
    try simp +decide only [nilC, bsx, Nat.reduceAdd, Int.reduceLE, Int.reduceLT, Int.reduceToNat, rsx, g_s, g_s_ne, RunS.al H2]
    refine callV_fn (rLoad H2 (node_iN P _ _) O.st fun h3 H3 u3 => ?_)
    try simp +decide only [nilC, bsx, Nat.reduceAdd, Int.reduceLE, Int.reduceLT, Int.reduceToNat, rsx, g_s, g_s_ne, RunS.al H3]
    refine callV_fn (lnPtr_call u3 ?_)
    try simp +decide only [nilC, bsx, Nat.reduceAdd, Int.reduceLE, Int.reduceLT, Int.reduceToNat, rsx, g_s, g_s_ne, RunS.al H3]
    refine RunS.stR (i := 2) H3 rfl (wptr_U _) fun h4 H4 => ?_
    try simp +decide only [nilC, bsx, Nat.reduceAdd, Int.reduceLE, Int.reduceLT, Int.reduceToNat, rsx, g_s, g_s_ne, RunS.al H4]
    exact RunS.stP H4 fun h90 H90 => k h90 (RunS.drp (RunS.none H90))
  rw [if_neg c] at k
  refine RunS.stR (i := 0) H1 rfl (B.g 2) fun h2 H2 => ?_
  try simp +decide only [nilC, bsx, Nat.reduceAdd, Int.reduceLE, Int.reduceLT, Int.reduceToNat, rsx, g_s, g_s_ne, RunS.al H2]
  have hd := O.fr
  have l1 := frl_s x 0 (x.f.g 2)
  exact callV_fn (lnCallN H2 [x.f.g 0] rfl (one_U (B.g 0)) rfl (by omega) fun h4 b' o' _ _ H4 => k h4 (RunS.drp (RunS.none H4)))
theorem mvDown_call (H : Sat h (RunS M T tv (some (b, o)) x R)) (k : ∀ h', Sat h' (RunS M T tv none (mvDown x) R) → K (.tuple #[]) h') :
    CallH Tryz.prog 118 #[rV M T b o] h K := by
  refine call118 ?_
  unfold F118 g118 bd lP lI nP
  unfold mvDown at k
  have H1 := RunS.new H (.cells #[mP M, mP T, fP b o] 123); generalize h.push (.cells #[mP M, mP T, fP b o] 123) = h1 at *; generalize h.size = N at *
  try simp +decide only [nilC, bsx, Nat.reduceAdd, Int.reduceLE, Int.reduceLT, Int.reduceToNat, rsx, g_s, g_s_ne, RunS.al H1]
  refine RunS.stR (i := 2) H1 rfl (u64_U _) fun h2 H2 => ?_
  try simp +decide only [nilC, bsx, Nat.reduceAdd, Int.reduceLE, Int.reduceLT, Int.reduceToNat, rsx, g_s, g_s_ne, RunS.al H2]
  exact RunS.stP H2 fun h3 H3 => k h3 (RunS.drp (RunS.none H3))
theorem mvWalk_call (H : Sat h (RunS M T tv (some (b, o)) x R)) (O : Ok x) (k : ∀ h', Sat h' (RunS M T tv none (mvWalk x) R) → K (.tuple #[]) h') :
    CallH Tryz.prog 120 #[rV M T b o] h K := by
  refine call120 ?_
  unfold F120 g120 cf ce bd lP lI nP
  have B := RunS.fB H
  have P := RunS.pl H
  unfold mvWalk at k
  dsimp only at k
  have H1 := RunS.new H (.cells #[mP M, mP T, fP b o] 123); generalize h.push (.cells #[mP M, mP T, fP b o] 123) = h1 at *; generalize h.size = N at *
  try simp +decide only [nilC, bsx, Nat.reduceAdd, Int.reduceLE, Int.reduceLT, Int.reduceToNat, rsx, g_s, g_s_ne, RunS.al H1]
  refine ifB_dec (fun c => ?_) (fun c => ?_)
  · rw [if_pos c] at k
    refine ⟨fun vs h' => ∃ (d : Bool) (y : Run), vs = [.bool d, .bool d] ∧ Sat h' (RunS M T tv (some (b, o)) y (pt N (.cells #[mP M, mP T, fP b o] 123) * R)) ∧ y.f = x.f ∧ ∀ h'', Sat h'' (RunS M T tv none (if d then y.pc 5 else if x.f.g 4 = wptr (x.f.g 3) then mvDown y else y.pc 6) R) → K (.tuple #[]) h'', ?_, ?_⟩
    · refine ifB_dec (fun c2 => ?_) (fun c2 => ?_)
      · rw [if_pos c2] at k
        exact ⟨true, x, rfl, H1, rfl, k⟩
      rw [if_neg c2] at k
      refine callV_fn (lnLink_call H1 fun h2 o2 => ?_)
      have H2 := RunS.old H1 o2
      try simp +decide only [nilC, bsx, Nat.reduceAdd, Int.reduceLE, Int.reduceLT, Int.reduceToNat, rsx, g_s, g_s_ne, RunS.al H2]
      refine callV_fn (rLoad H2 (node_iN P _ _) O.st fun h3 H3 u3 => ?_)
      try simp +decide only [nilC, bsx, Nat.reduceAdd, Int.reduceLE, Int.reduceLT, Int.reduceToNat, rsx, g_s, g_s_ne, RunS.al H3]
      refine callV_fn (lnMark_call u3 ?_)
      try simp +decide only [nilC, bsx, Nat.reduceAdd, Int.reduceLE, Int.reduceLT, Int.reduceToNat, rsx, g_s, g_s_ne, RunS.al H3]
      exact ⟨_, _, rfl, H3, rfl, k⟩
    rintro v29 v30 g31 h32 ⟨d, y, e, H3, ef, k⟩
    cases e
    try simp +decide only [nilC, bsx, Nat.reduceAdd, Int.reduceLE, Int.reduceLT, Int.reduceToNat, rsx, g_s, g_s_ne, RunS.al H3, ef]
    cases d
    · simp only [Bool.false_eq_true, if_false] at k
      try simp +decide only [nilC, bsx, Nat.reduceAdd, Int.reduceLE, Int.reduceLT, Int.reduceToNat, rsx, g_s, g_s_ne, RunS.al H3, ef]
      refine callV_fn (lnPtr_call (B.g 3) ?_)
      try simp +decide only [nilC, bsx, Nat.reduceAdd, Int.reduceLE, Int.reduceLT, Int.reduceToNat, rsx, g_s, g_s_ne, RunS.al H3, ef]
      refine ifB_dec (fun c2 => ?_) (fun c2 => ?_)
      · rw [if_pos c2] at k
        exact callV_fn (mvDown_call H3 fun h4 H4 => k h4 (RunS.drp H4))
      · rw [if_neg c2] at k
        exact RunS.stP H3 fun h4 H4 => k h4 (RunS.drp (RunS.none H4))
    · exact RunS.stP H3 fun h4 H4 => k h4 (RunS.drp (RunS.none H4))
  rw [if_neg c] at k
  refine ifB_dec (fun c => ?_) (fun c => ?_)
  · rw [if_pos c] at k
    refine callV_fn (lnLink_call H1 fun h2 o2 => ?_)
    have H2 := RunS.old H1 o2
    try simp +decide only [nilC, bsx, Nat.reduceAdd, Int.reduceLE, Int.reduceLT, Int.reduceToNat, rsx, g_s, g_s_ne, RunS.al H2]
    refine callV_fn (rLoad H2 (node_iN P _ _) O.st fun h3 H3 u3 => ?_)
    try simp +decide only [nilC, bsx, Nat.reduceAdd, Int.reduceLE, Int.reduceLT, Int.reduceToNat, rsx, g_s, g_s_ne, RunS.al H3]
    refine callV_fn (lnPtr_call u3 ?_)
    try simp +decide only [nilC, bsx, Nat.reduceAdd, Int.reduceLE, Int.reduceLT, Int.reduceToNat, rsx, g_s, g_s_ne, RunS.al H3]
    refine RunS.stR (i := 4) H3 rfl (wptr_U _) fun h4 H4 => ?_
    try simp +decide only [nilC, bsx, Nat.reduceAdd, Int.reduceLE, Int.reduceLT, Int.reduceToNat, rsx, g_s, g_s_ne, RunS.al H4]
    refine RunS.stP H4 fun h5 H5 => ?_
    try simp +decide only [nilC, bsx, Nat.reduceAdd, Int.reduceLE, Int.reduceLT, Int.reduceToNat, rsx, g_s, g_s_ne, RunS.al H5, B.len]
    refine ifB_dec (fun c2 => ?_) (fun c2 => ?_)
    · rw [if_pos c2] at k
      exact RunS.stP H5 fun h90 H90 => k h90 (RunS.drp (RunS.none H90))
    · rw [if_neg c2] at k
      exact k h5 (RunS.drp (RunS.none H5))
  rw [if_neg c] at k
  refine callV_fn (lnLink_call H1 fun h2 o2 => ?_)
  have H2 := RunS.old H1 o2
  try simp +decide only [nilC, bsx, Nat.reduceAdd, Int.reduceLE, Int.reduceLT, Int.reduceToNat, rsx, g_s, g_s_ne, RunS.al H2]
  refine callV_fn (lnSwing_call H2 (node_iN P _ _) (B.g 3) O.st fun h3 H3 => ?_)
  try simp +decide only [nilC, bsx, Nat.reduceAdd, Int.reduceLE, Int.reduceLT, Int.reduceToNat, rsx, g_s, g_s_ne, RunS.al H3]
  refine ifB_mk (fun c2 => ?_) (fun c2 => ?_)
  · rw [if_pos c2] at k
    exact callV_fn (mvDown_call H3 fun h4 H4 => k h4 (RunS.drp H4))
  · rw [if_neg (by rw [c2]; simp)] at k
    exact RunS.stP H3 fun h90 H90 => k h90 (RunS.drp (RunS.none H90))
theorem mvStep_call (H : Sat h (RunS M T tv (some (b, o)) x R)) (O : Ok x) (k : ∀ h', Sat h' (RunS M T tv none (mvStep x) R) → K (.tuple #[]) h') :
    CallH Tryz.prog 59 #[rV M T b o] h K := by
  refine call59 ?_
  unfold F59 g59 cf ce bd lP lI nP
  have B := RunS.fB H
  have P := RunS.pl H
  unfold mvStep at k
  dsimp only at k
  have H1 := RunS.new H (.cells #[mP M, mP T, fP b o] 123); generalize h.push (.cells #[mP M, mP T, fP b o] 123) = h1 at *; generalize h.size = N at *
  try simp +decide only [nilC, bsx, Nat.reduceAdd, Int.reduceLE, Int.reduceLT, Int.reduceToNat, rsx, g_s, g_s_ne, RunS.al H1]
  refine ifB_dec (fun c => ?_) (fun c => ?_)
  · rw [if_pos c] at k
    refine callV_fn (rLoad H1 (by decide) O.st fun h2 H2 u2 => ?_)
    try simp +decide only [nilC, bsx, Nat.reduceAdd, Int.reduceLE, Int.reduceLT, Int.reduceToNat, rsx, g_s, g_s_ne, RunS.al H2]
    refine RunS.stR (i := 1) H2 rfl u2 fun h3 H3 => ?_
    try simp +decide only [nilC, bsx, Nat.reduceAdd, Int.reduceLE, Int.reduceLT, Int.reduceToNat, rsx, g_s, g_s_ne, RunS.al H3]
    refine callV_fn (rPlanO H3 fun h4 o4 => pl15 ?_)
    have H4 := RunS.old H3 o4
    try simp +decide only [nilC, bsx, Nat.reduceAdd, Int.reduceLE, Int.reduceLT, Int.reduceToNat, rsx, g_s, g_s_ne, RunS.al H4]
    refine callV_fn (plConf_call fun h5 o5 => cf7 ?_)
    have H5 := RunS.old H4 o5
    try simp +decide only [nilC, bsx, Nat.reduceAdd, Int.reduceLE, Int.reduceLT, Int.reduceToNat, rsx, g_s, g_s_ne, RunS.al H5]
    refine RunS.stR (i := 2) H5 rfl (u64_U _) fun h6 H6 => ?_
    try simp +decide only [nilC, bsx, Nat.reduceAdd, Int.reduceLE, Int.reduceLT, Int.reduceToNat, rsx, g_s, g_s_ne, RunS.al H6]
    exact RunS.stP H6 fun h90 H90 => k h90 (RunS.drp (RunS.none H90))
  rw [if_neg c] at k
  refine ifB_dec (fun c => ?_) (fun c => ?_)
  · rw [if_pos c] at k
    refine ifB_dec (fun c2 => ?_) (fun c2 => ?_)
    · rw [if_pos c2] at k
      exact callV_fn (rPop H1 Args.none (by omega) fun h2 H2 => k h2 (RunS.drp H2))
    rw [if_neg c2] at k
    refine callV_fn (lnLink_call H1 fun h2 o2 => ?_)
    have H2 := RunS.old H1 o2
    try simp +decide only [nilC, bsx, Nat.reduceAdd, Int.reduceLE, Int.reduceLT, Int.reduceToNat, rsx, g_s, g_s_ne, RunS.al H2]
    refine callV_fn (rLoad H2 (node_iN P _ _) O.st fun h3 H3 u3 => ?_)
    try simp +decide only [nilC, bsx, Nat.reduceAdd, Int.reduceLE, Int.reduceLT, Int.reduceToNat, rsx, g_s, g_s_ne, RunS.al H3]
    refine RunS.stR (i := 3) H3 rfl u3 fun h4 H4 => ?_
    try simp +decide only [nilC, bsx, Nat.reduceAdd, Int.reduceLE, Int.reduceLT, Int.reduceToNat, rsx, g_s, g_s_ne, RunS.al H4, B.len]
    refine callV_fn (lnPtr_call u3 ?_)
    try simp +decide only [nilC, bsx, Nat.reduceAdd, Int.reduceLE, Int.reduceLT, Int.reduceToNat, rsx, g_s, g_s_ne, RunS.al H4]
    refine RunS.stR (i := 4) H4 rfl (wptr_U _) fun h5 H5 => ?_
    try simp +decide only [nilC, bsx, Nat.reduceAdd, Int.reduceLE, Int.reduceLT, Int.reduceToNat, rsx, g_s, g_s_ne, RunS.al H5]
    refine RunS.stP H5 fun h6 H6 => ?_
    try simp +decide only [nilC, bsx, Nat.reduceAdd, Int.reduceLE, Int.reduceLT, Int.reduceToNat, rsx, g_s, g_s_ne, RunS.al H6, B.len]
    refine ifB_dec (fun c3 => ?_) (fun c3 => ?_)
    · rw [if_pos c3] at k
      exact callV_fn (mvDown_call H6 fun h7 H7 => k h7 (RunS.drp H7))
    · rw [if_neg c3] at k
      exact k h6 (RunS.drp (RunS.none H6))
  rw [if_neg c] at k
  refine ifB_dec (fun c => ?_) (fun c => ?_)
  · rw [if_pos c] at k
    refine callV_fn (lnGuard_call H1 O (B.g 5) (B.g 4) fun h2 H2 => ?_)
    try simp +decide only [nilC, bsx, Nat.reduceAdd, Int.reduceLE, Int.reduceLT, Int.reduceToNat, rsx, g_s, g_s_ne, RunS.al H2]
    refine RunS.stR (i := 5) H2 rfl (u64_U _) fun h3 H3 => ?_
    try simp +decide only [nilC, bsx, Nat.reduceAdd, Int.reduceLE, Int.reduceLT, Int.reduceToNat, rsx, g_s, g_s_ne, RunS.al H3]
    exact RunS.stP H3 fun h90 H90 => k h90 (RunS.drp (RunS.none H90))
  rw [if_neg c] at k
  refine ifB_dec (fun c => ?_) (fun c => ?_)
  · rw [if_pos c] at k
    refine RunS.stP H1 fun h2 H2 => ?_
    try simp +decide only [nilC, bsx, Nat.reduceAdd, Int.reduceLE, Int.reduceLT, Int.reduceToNat, rsx, g_s, g_s_ne, RunS.al H2]
    refine callV_fn (rLoad H2 (by decide) O.st fun h3 H3 u3 => ?_)
    try simp +decide only [nilC, bsx, Nat.reduceAdd, Int.reduceLE, Int.reduceLT, Int.reduceToNat, rsx, g_s, g_s_ne, RunS.al H3]
    refine ifB_mk (fun c2 => ?_) (fun c2 => ?_)
    · rw [if_pos (bne_iff_ne.1 c2)] at k
      exact RunS.stP H3 fun h5 H5 => k h5 (RunS.drp (RunS.none H5))
    · rw [if_neg (fun hh => hh (bne_eq_false_iff_eq.1 c2))] at k
      exact k h3 (RunS.drp (RunS.none H3))
  rw [if_neg c] at k
  exact callV_fn (mvWalk_call H1 O fun h2 H2 => k h2 (RunS.drp H2))
theorem lrNext_call (H : Sat h (RunS M T tv (some (b, o)) x R)) (k : ∀ h', Old h.size h h' → K (.int .u64 (wptr (x.f.g 5))) h') :
    CallH Tryz.prog 195 #[rV M T b o] h K := by
  refine call195 ?_
  unfold F195 g195 cf bd lP lI nP
  have B := RunS.fB H
  have oo : Old h.size h (h.push (.cells #[mP M, mP T, fP b o] 124)) := (Old.refl _ _).push _ (Nat.le_refl _)
  have H1 := RunS.new H (.cells #[mP M, mP T, fP b o] 124); generalize h.push (.cells #[mP M, mP T, fP b o] 124) = h1 at *; generalize h.size = N at *
  try simp +decide only [nilC, bsx, Nat.reduceAdd, Int.reduceLE, Int.reduceLT, Int.reduceToNat, rsx, g_s, g_s_ne, RunS.al H1]
  refine callV_fn (lnPtr_call (B.g 5) ?_)
  try simp only [nilC, bsx, Nat.reduceAdd, Int.reduceLE, Int.reduceLT, Int.reduceToNat]
  exact k h1 oo
theorem lrLook_call (H : Sat h (RunS M T tv (some (b, o)) x R)) (O : Ok x) (k : ∀ h', Sat h' (RunS M T tv none (lrLook x) R) → K (.tuple #[]) h') :
    CallH Tryz.prog 121 #[rV M T b o] h K := by
  refine call121 ?_
  unfold F121 g121 cf ce bd lP lI nP
  have B := RunS.fB H
  have P := RunS.pl H
  unfold lrLook at k
  dsimp only at k
  have H1 := RunS.new H (.cells #[mP M, mP T, fP b o] 124); generalize h.push (.cells #[mP M, mP T, fP b o] 124) = h1 at *; generalize h.size = N at *
  try simp +decide only [nilC, bsx, Nat.reduceAdd, Int.reduceLE, Int.reduceLT, Int.reduceToNat, rsx, g_s, g_s_ne, RunS.al H1]
  refine ifB_dec (fun c => ?_) (fun c => ?_)
  · rw [if_pos c] at k
    refine callV_fn (rLoad H1 (by decide) O.st fun h2 H2 u2 => ?_)
    try simp +decide only [nilC, bsx, Nat.reduceAdd, Int.reduceLE, Int.reduceLT, Int.reduceToNat, rsx, g_s, g_s_ne, RunS.al H2]
    refine RunS.stR (i := 0) H2 rfl u2 fun h3 H3 => ?_
    try simp +decide only [nilC, bsx, Nat.reduceAdd, Int.reduceLE, Int.reduceLT, Int.reduceToNat, rsx, g_s, g_s_ne, RunS.al H3]
    refine RunS.stR (i := 2) H3 rfl (U.lit rfl) fun h4 H4 => ?_
    try simp +decide only [nilC, bsx, Nat.reduceAdd, Int.reduceLE, Int.reduceLT, Int.reduceToNat, rsx, g_s, g_s_ne, RunS.al H4]
    refine RunS.stR (i := 3) H4 rfl U0 fun h5 H5 => ?_
    try simp +decide only [nilC, bsx, Nat.reduceAdd, Int.reduceLE, Int.reduceLT, Int.reduceToNat, rsx, g_s, g_s_ne, RunS.al H5]
    refine RunS.stR (i := 4) H5 rfl U0 fun h6 H6 => ?_
    try simp +decide only [nilC, bsx, Nat.reduceAdd, Int.reduceLE, Int.reduceLT, Int.reduceToNat, rsx, g_s, g_s_ne, RunS.al H6]
    exact RunS.stP H6 fun h90 H90 => k h90 (RunS.drp (RunS.none H90))
  rw [if_neg c] at k
  refine ifB_dec (fun c => ?_) (fun c => ?_)
  · rw [if_pos c] at k
    refine callV_fn (lnLink_call H1 fun h2 o2 => ?_)
    have H2 := RunS.old H1 o2
    try simp +decide only [nilC, bsx, Nat.reduceAdd, Int.reduceLE, Int.reduceLT, Int.reduceToNat, rsx, g_s, g_s_ne, RunS.al H2]
    refine callV_fn (rLoad H2 (node_iN P _ _) O.st fun h3 H3 u3 => ?_)
    try simp +decide only [nilC, bsx, Nat.reduceAdd, Int.reduceLE, Int.reduceLT, Int.reduceToNat, rsx, g_s, g_s_ne, RunS.al H3]
    refine RunS.stR (i := 1) H3 rfl u3 fun h4 H4 => ?_
    try simp +decide only [nilC, bsx, Nat.reduceAdd, Int.reduceLE, Int.reduceLT, Int.reduceToNat, rsx, g_s, g_s_ne, RunS.al H4, B.len]
    refine RunS.stR (i := 5) H4 rfl u3 fun h5 H5 => ?_
    try simp +decide only [nilC, bsx, Nat.reduceAdd, Int.reduceLE, Int.reduceLT, Int.reduceToNat, rsx, g_s, g_s_ne, RunS.al H5]
    exact RunS.stP H5 fun h90 H90 => k h90 (RunS.drp (RunS.none H90))
  rw [if_neg c] at k
  refine ifB_dec (fun c => ?_) (fun c => ?_)
  · rw [if_pos c] at k
    refine RunS.stP H1 fun h2 H2 => ?_
    try simp +decide only [nilC, bsx, Nat.reduceAdd, Int.reduceLE, Int.reduceLT, Int.reduceToNat, rsx, g_s, g_s_ne, RunS.al H2]
    refine callV_fn (lrNext_call H2 fun h3 o3 => ?_)
    have H3 := RunS.old H2 o3
    try simp +decide only [nilC, bsx, Nat.reduceAdd, Int.reduceLE, Int.reduceLT, Int.reduceToNat, rsx, g_s, g_s_ne, RunS.al H3]
    have hd := O.fr
    have l1 := frl_pc x 3
    refine ifB_dec (fun c2 => ?_) (fun c2 => ?_)
    · rw [if_pos c2] at k
      exact callV_fn (lnDone_call H3 (U.lit rfl) (by omega) fun h8 b' o' H8 => k h8 (RunS.drp (RunS.none H8)))
    · rw [if_neg c2] at k
      exact k h3 (RunS.drp (RunS.none H3))
  rw [if_neg c] at k
  refine ifB_dec (fun c => ?_) (fun c => ?_)
  · rw [if_pos c] at k
    refine callV_fn (lrNext_call H1 fun h2 o2 => ?_)
    have H2 := RunS.old H1 o2
    try simp +decide only [nilC, bsx, Nat.reduceAdd, Int.reduceLE, Int.reduceLT, Int.reduceToNat, rsx, g_s, g_s_ne, RunS.al H2]
    refine callV_fn (lnGuard_call H2 O (B.g 3) (wptr_U _) fun h3 H3 => ?_)
    have ef : (x.guard (x.f.g 3) (wptr (x.f.g 5))).f = x.f := rfl
    try simp +decide only [nilC, bsx, Nat.reduceAdd, Int.reduceLE, Int.reduceLT, Int.reduceToNat, rsx, g_s, g_s_ne, RunS.al H3, ef]
    refine RunS.stR (i := 3) H3 rfl (u64_U _) fun h4 H4 => ?_
    try simp +decide only [nilC, bsx, Nat.reduceAdd, Int.reduceLE, Int.reduceLT, Int.reduceToNat, rsx, g_s, g_s_ne, RunS.al H4]
    exact RunS.stP H4 fun h90 H90 => k h90 (RunS.drp (RunS.none H90))
  rw [if_neg c] at k
  refine ifB_dec (fun c => ?_) (fun c => ?_)
  · rw [if_pos c] at k
    refine RunS.stP H1 fun h2 H2 => ?_
    try simp +decide only [nilC, bsx, Nat.reduceAdd, Int.reduceLE, Int.reduceLT, Int.reduceToNat, rsx, g_s, g_s_ne, RunS.al H2]
    refine callV_fn (rLoad H2 (by decide) O.st fun h3 H3 u3 => ?_)
    try simp +decide only [nilC, bsx, Nat.reduceAdd, Int.reduceLE, Int.reduceLT, Int.reduceToNat, rsx, g_s, g_s_ne, RunS.al H3]
    refine ifB_mk (fun c2 => ?_) (fun c2 => ?_)
    · rw [if_pos (bne_iff_ne.1 c2)] at k
      exact RunS.stP H3 fun h5 H5 => k h5 (RunS.drp (RunS.none H5))
    · rw [if_neg (fun hh => hh (bne_eq_false_iff_eq.1 c2))] at k
      exact k h3 (RunS.drp (RunS.none H3))
  rw [if_neg c] at k
  exact k h1 (RunS.drp (RunS.none H1))
theorem lrOn_call (H : Sat h (RunS M T tv (some (b, o)) x R)) (O : Ok x) (k : ∀ h', Sat h' (RunS M T tv none (lrOn x) R) → K (.tuple #[]) h') :
    CallH Tryz.prog 122 #[rV M T b o] h K := by
  refine call122 ?_
  unfold F122 g122 cf ce bd lP lI nP
  have B := RunS.fB H
  have P := RunS.pl H
  unfold lrOn at k
  dsimp only at k
  have H1 := RunS.new H (.cells #[mP M, mP T, fP b o] 124); generalize h.push (.cells #[mP M, mP T, fP b o] 124) = h1 at *; generalize h.size = N at *
  try simp +decide only [nilC, bsx, Nat.reduceAdd, Int.reduceLE, Int.reduceLT, Int.reduceToNat, rsx, g_s, g_s_ne, RunS.al H1]
  refine ifB_dec (fun c => ?_) (fun c => ?_)
  · rw [if_pos c] at k
    refine RunS.stP H1 fun h2 H2 => ?_
    try simp +decide only [nilC, bsx, Nat.reduceAdd, Int.reduceLE, Int.reduceLT, Int.reduceToNat, rsx, g_s, g_s_ne, RunS.al H2]
    refine ⟨fun vs h' => ∃ (w : Value) (d : Bool) (y : Run), vs = [w, .bool d] ∧ Sat h' (RunS M T tv (some (b, o)) y (pt N (.cells #[mP M, mP T, fP b o] 124) * R)) ∧ (∀ i, y.f.g i = x.f.g i) ∧ ∀ h'', Sat h'' (RunS M T tv none (if d then y.s 4 (x.f.g 2) else y) R) → K (.tuple #[]) h'', ?_, ?_⟩
    · refine ifB_mk (fun c2 => ?_) (fun c2 => ?_)
      · have c2' := bne_iff_ne.1 c2
        refine ifB_dec (fun c3 => ?_) (fun c3 => ?_)
        · rw [if_pos ⟨c2', c3⟩] at k
          try simp +decide only [nilC, bsx, Nat.reduceAdd, Int.reduceLE, Int.reduceLT, Int.reduceToNat, rsx, g_s, g_s_ne, RunS.al H2]
          refine callV_fn (lnAt_call H2 (by decide) fun h3 o3 => ?_)
          have H3 := RunS.old H2 o3
          try simp +decide only [nilC, bsx, Nat.reduceAdd, Int.reduceLE, Int.reduceLT, Int.reduceToNat, rsx, g_s, g_s_ne, RunS.al H3]
          refine callV_fn (rLoad H3 (node_iN P _ _) O.st fun h4 H4 u4 => ?_)
          try simp +decide only [nilC, bsx, Nat.reduceAdd, Int.reduceLE, Int.reduceLT, Int.reduceToNat, rsx, g_s, g_s_ne, RunS.al H4]
          refine ⟨_, decide (((x.pc 6).load ((x.pc 6).na (x.f.g 2) 2)).1 = 1), _, rfl, H4, fun i => by rw [f_load, f_pc, g_at], ?_⟩
          simp only [decide_eq_true_eq]
          exact k
        · rw [if_neg (fun hh => c3 hh.2)] at k
          exact ⟨_, false, _, rfl, H2, fun i => by rw [f_pc, g_at], k⟩
      · have c2' := bne_eq_false_iff_eq.1 c2
        rw [if_neg (fun hh => hh.1 c2')] at k
        exact ⟨_, false, _, rfl, H2, fun i => by rw [f_pc, g_at], k⟩
    rintro v28 v29 g30 h31 ⟨w, d, y, e, H3, eg, k⟩
    cases e
    try simp +decide only [nilC, bsx, Nat.reduceAdd, Int.reduceLE, Int.reduceLT, Int.reduceToNat, rsx, g_s, g_s_ne, RunS.al H3, eg]
    cases d
    · exact k h31 (RunS.drp (RunS.none H3))
    · try simp +decide only [nilC, bsx, Nat.reduceAdd, Int.reduceLE, Int.reduceLT, Int.reduceToNat, rsx, g_s, g_s_ne, RunS.al H3, eg]
      exact RunS.stR (i := 4) H3 rfl (B.g 2) fun h4 H4 => k h4 (RunS.drp (RunS.none H4))
  rw [if_neg c] at k
  refine ifB_dec (fun c => ?_) (fun c => ?_)
  · rw [if_pos c] at k
    refine RunS.stP H1 fun h2 H2 => ?_
    try simp +decide only [nilC, bsx, Nat.reduceAdd, Int.reduceLE, Int.reduceLT, Int.reduceToNat, rsx, g_s, g_s_ne, RunS.al H2]
    refine callV_fn (lnMark_call (B.g 5) ?_)
    try simp +decide only [nilC, bsx, Nat.reduceAdd, Int.reduceLE, Int.reduceLT, Int.reduceToNat, rsx, g_s, g_s_ne, RunS.al H2]
    refine ifB_mk (fun c2 => ?_) (fun c2 => ?_)
    · rw [if_pos c2, ← pc_s_pc x 8 7] at k
      try simp +decide only [nilC, bsx, Nat.reduceAdd, Int.reduceLE, Int.reduceLT, Int.reduceToNat, rsx, g_s, g_s_ne, RunS.al H2]
      refine callV_fn (lrNext_call H2 fun h3 o3 => ?_)
      have H3 := RunS.old H2 o3
      try simp +decide only [nilC, bsx, Nat.reduceAdd, Int.reduceLE, Int.reduceLT, Int.reduceToNat, rsx, g_s, g_s_ne, RunS.al H3]
      refine RunS.stR (i := 2) H3 rfl (wptr_U _) fun h4 H4 => ?_
      try simp +decide only [nilC, bsx, Nat.reduceAdd, Int.reduceLE, Int.reduceLT, Int.reduceToNat, rsx, g_s, g_s_ne, RunS.al H4]
      exact RunS.stP H4 fun h5 H5 => k h5 (RunS.drp (RunS.none H5))
    · rw [if_neg (by rw [c2]; simp)] at k
      try simp +decide only [nilC, bsx, Nat.reduceAdd, Int.reduceLE, Int.reduceLT, Int.reduceToNat, rsx, g_s, g_s_ne, RunS.al H2]
      refine ifB_dec (fun c3 => ?_) (fun c3 => ?_)
      · rw [if_pos c3, ← pc_pc x 8 9] at k
        exact RunS.stP H2 fun h5 H5 => k h5 (RunS.drp (RunS.none H5))
      · rw [if_neg c3] at k
        exact k h2 (RunS.drp (RunS.none H2))
  rw [if_neg c] at k
  refine ifB_dec (fun c => ?_) (fun c => ?_)
  · rw [if_pos c] at k
    refine callV_fn (lnLink_call H1 fun h2 o2 => ?_)
    have H2 := RunS.old H1 o2
    try simp +decide only [nilC, bsx, Nat.reduceAdd, Int.reduceLE, Int.reduceLT, Int.reduceToNat, rsx, g_s, g_s_ne, RunS.al H2]
    refine callV_fn (rLoad H2 (node_iN P _ _) O.st fun h3 H3 u3 => ?_)
    try simp +decide only [nilC, bsx, Nat.reduceAdd, Int.reduceLE, Int.reduceLT, Int.reduceToNat, rsx, g_s, g_s_ne, RunS.al H3]
    refine RunS.stR (i := 5) H3 rfl u3 fun h4 H4 => ?_
    try simp +decide only [nilC, bsx, Nat.reduceAdd, Int.reduceLE, Int.reduceLT, Int.reduceToNat, rsx, g_s, g_s_ne, RunS.al H4]
    exact RunS.stP H4 fun h90 H90 => k h90 (RunS.drp (RunS.none H90))
  rw [if_neg c] at k
  refine ifB_dec (fun c => ?_) (fun c => ?_)
  · rw [if_pos c] at k
    refine RunS.stP H1 fun h2 H2 => ?_
    try simp +decide only [nilC, bsx, Nat.reduceAdd, Int.reduceLE, Int.reduceLT, Int.reduceToNat, rsx, g_s, g_s_ne, RunS.al H2]
    refine callV_fn (lnLink_call H2 fun h3 o3 => ?_)
    have H3 := RunS.old H2 o3
    try simp +decide only [nilC, bsx, Nat.reduceAdd, Int.reduceLE, Int.reduceLT, Int.reduceToNat, rsx, g_s, g_s_ne, RunS.al H3]
    refine callV_fn (lrNext_call H3 fun h4 o4 => ?_)
    have H4 := RunS.old H3 o4
    try simp +decide only [nilC, bsx, Nat.reduceAdd, Int.reduceLE, Int.reduceLT, Int.reduceToNat, rsx, g_s, g_s_ne, RunS.al H4]
    refine callV_fn (lnSwing_call H4 (node_iN P _ _) (B.g 5) O.st fun h5 H5 => ?_)
    have ef : ((x.pc 9).swingM ((x.pc 9).nlink (x.f.g 2) 0) (x.f.g 5) (wptr (x.f.g 5)) true).2.f = (x.pc 9).f := rfl
    try simp +decide only [nilC, bsx, Nat.reduceAdd, Int.reduceLE, Int.reduceLT, Int.reduceToNat, rsx, g_s, g_s_ne, RunS.al H5, ef]
    refine ifB_mk (fun c2 => ?_) (fun c2 => ?_)
    · rw [if_neg (by simpa using c2)] at k
      refine RunS.stR (i := 3) H5 rfl (u64_U _) fun h6 H6 => ?_
      try simp +decide only [nilC, bsx, Nat.reduceAdd, Int.reduceLE, Int.reduceLT, Int.reduceToNat, rsx, g_s, g_s_ne, RunS.al H6]
      exact RunS.stP H6 fun h7 H7 => k h7 (RunS.drp (RunS.none H7))
    · rw [if_pos (by simpa using c2)] at k
      exact k h5 (RunS.drp (RunS.none H5))
  rw [if_neg c] at k
  exact k h1 (RunS.drp (RunS.none H1))
theorem lrTell_call (H : Sat h (RunS M T tv (some (b, o)) x R)) (O : Ok x) (k : ∀ h', Sat h' (RunS M T tv none (lrTell x) R) → K (.tuple #[]) h') :
    CallH Tryz.prog 123 #[rV M T b o] h K := by
  refine call123 ?_
  unfold F123 g123 cf ce bd lP lI nP
  have B := RunS.fB H
  have P := RunS.pl H
  unfold lrTell at k
  dsimp only at k
  have H1 := RunS.new H (.cells #[mP M, mP T, fP b o] 124); generalize h.push (.cells #[mP M, mP T, fP b o] 124) = h1 at *; generalize h.size = N at *
  try simp +decide only [nilC, bsx, Nat.reduceAdd, Int.reduceLE, Int.reduceLT, Int.reduceToNat, rsx, g_s, g_s_ne, RunS.al H1]
  refine ifB_dec (fun c => ?_) (fun c => ?_)
  · rw [if_pos c] at k
    refine callV_fn (lrNext_call H1 fun h2 o2 => ?_)
    have H2 := RunS.old H1 o2
    try simp +decide only [nilC, bsx, Nat.reduceAdd, Int.reduceLE, Int.reduceLT, Int.reduceToNat, rsx, g_s, g_s_ne, RunS.al H2]
    refine callV_fn (lnAt_call H2 (by decide) fun h3 o3 => ?_)
    have H3 := RunS.old H2 o3
    try simp +decide only [nilC, bsx, Nat.reduceAdd, Int.reduceLE, Int.reduceLT, Int.reduceToNat, rsx, g_s, g_s_ne, RunS.al H3]
    refine callV_fn (rLoad H3 (node_iN P _ _) O.st fun h4 H4 u4 => ?_)
    try simp +decide only [nilC, bsx, Nat.reduceAdd, Int.reduceLE, Int.reduceLT, Int.reduceToNat, rsx, g_s, g_s_ne, RunS.al H4]
    refine RunS.stR (i := 6) H4 rfl u4 fun h5 H5 => ?_
    try simp +decide only [nilC, bsx, Nat.reduceAdd, Int.reduceLE, Int.reduceLT, Int.reduceToNat, rsx, g_s, g_s_ne, RunS.al H5]
    exact RunS.stP H5 fun h90 H90 => k h90 (RunS.drp (RunS.none H90))
  rw [if_neg c] at k
  refine ifB_dec (fun c => ?_) (fun c => ?_)
  · rw [if_pos c] at k
    refine callV_fn (lrNext_call H1 fun h2 o2 => ?_)
    have H2 := RunS.old H1 o2
    try simp +decide only [nilC, bsx, Nat.reduceAdd, Int.reduceLE, Int.reduceLT, Int.reduceToNat, rsx, g_s, g_s_ne, RunS.al H2]
    refine callV_fn (lnAt_call H2 (by decide) fun h3 o3 => ?_)
    have H3 := RunS.old H2 o3
    try simp +decide only [nilC, bsx, Nat.reduceAdd, Int.reduceLE, Int.reduceLT, Int.reduceToNat, rsx, g_s, g_s_ne, RunS.al H3]
    refine callV_fn (rLoad H3 (node_iN P _ _) O.st fun h4 H4 u4 => ?_)
    try simp +decide only [nilC, bsx, Nat.reduceAdd, Int.reduceLE, Int.reduceLT, Int.reduceToNat, rsx, g_s, g_s_ne, RunS.al H4]
    refine callV_fn (oKey_call u4 ?_)
    try simp +decide only [nilC, bsx, Nat.reduceAdd, Int.reduceLE, Int.reduceLT, Int.reduceToNat, rsx, g_s, g_s_ne, RunS.al H4, ordKey_u u4]
    refine RunS.stR (i := 8) H4 rfl (ordKey_U u4) fun h5 H5 => ?_
    try simp +decide only [nilC, bsx, Nat.reduceAdd, Int.reduceLE, Int.reduceLT, Int.reduceToNat, rsx, g_s, g_s_ne, RunS.al H5]
    generalize hy : ((x.load (x.na (wptr (x.f.g 5)) 0)).2.s 8 (ordKey (x.load (x.na (wptr (x.f.g 5)) 0)).1)).pc 11 = y at k
    have hyg : ∀ i, ¬ 8 = i → y.f.g i = x.f.g i := fun i hi => by rw [← hy, f_pc, g_at, f_s, g_s_ne _ hi, f_load]
    have hyn : y.f.fn = x.f.fn := by rw [← hy, f_pc, fn_at, f_s, fn_s, f_load]
    refine RunS.stP H5 fun h6 H6 => ?_
    rw [hy] at H6
    have e3 := hyg 3 (by decide)
    have e4 := hyg 4 (by decide)
    have e5 := hyg 5 (by decide)
    refine ⟨fun vs h' => ∃ y2 : Run, Sat h' (RunS M T tv (some (b, o)) y2 (pt N (.cells #[mP M, mP T, fP b o] 124) * R)) ∧ (∀ i, y2.f.g i = y.f.g i) ∧ ∀ h'', Sat h'' (RunS M T tv none (if x.f.g 4 = 0 then y2.s 4 (wptr (x.f.g 5)) else y2) R) → K (.tuple #[]) h'', ?_, ?_⟩
    · refine ⟨fun vs h' => ∃ d : Bool, vs = [.bool d] ∧ Sat h' (RunS M T tv (some (b, o)) y (pt N (.cells #[mP M, mP T, fP b o] 124) * R)) ∧ (d = true ↔ (x.f.fn = 33 ∨ x.f.g 3 < Mod.u64 y.m.p.c.batch)), ?_, ?_⟩
      · try simp +decide only [nilC, bsx, Nat.reduceAdd, Int.reduceLE, Int.reduceLT, Int.reduceToNat, rsx, g_s, g_s_ne, RunS.al H6, hyn, e3]
        refine ifB_dec (fun c2 => ?_) (fun c2 => ?_)
        · exact ⟨true, rfl, H6, by simp [c2]⟩
        · try simp +decide only [nilC, bsx, Nat.reduceAdd, Int.reduceLE, Int.reduceLT, Int.reduceToNat, rsx, g_s, g_s_ne, RunS.al H6, hyn, e3]
          refine callV_fn (rPlanO H6 fun h7 o7 => pl15 ?_)
          have H7 := RunS.old H6 o7
          try simp +decide only [nilC, bsx, Nat.reduceAdd, Int.reduceLE, Int.reduceLT, Int.reduceToNat, rsx, g_s, g_s_ne, RunS.al H7, e3]
          refine callV_fn (plConf_call fun h8 o8 => cf7 ?_)
          have H8 := RunS.old H7 o8
          try simp +decide only [nilC, bsx, Nat.reduceAdd, Int.reduceLE, Int.reduceLT, Int.reduceToNat, rsx, g_s, g_s_ne, RunS.al H8, e3]
          exact ⟨_, rfl, H8, by simp [c2]⟩
      rintro v89 g90 h91 ⟨d, e, H7, hd⟩
      cases e
      try simp +decide only [nilC, bsx, Nat.reduceAdd, Int.reduceLE, Int.reduceLT, Int.reduceToNat, rsx, g_s, g_s_ne, RunS.al H7]
      refine ifB_mk (fun c2 => ?_) (fun c2 => ?_)
      · rw [if_pos (show x.f.fn = 33 ∨ x.f.g 3 < Mod.u64 y.m.p.c.batch from hd.1 c2)] at k
        exact RunS.stP H7 fun h8 H8 => ⟨_, H8, fun i => by rw [f_pc, g_at], k⟩
      · have hn : ¬ (x.f.fn = 33 ∨ x.f.g 3 < Mod.u64 y.m.p.c.batch) := fun hh => by rw [hd.2 hh] at c2; cases c2
        rw [if_neg hn] at k
        exact ⟨_, H7, fun i => rfl, k⟩
    rintro g95 h96 ⟨y2, H7, eg, k⟩
    have f4 := (eg 4).trans e4
    have f5 := (eg 5).trans e5
    try simp +decide only [nilC, bsx, Nat.reduceAdd, Int.reduceLE, Int.reduceLT, Int.reduceToNat, rsx, g_s, g_s_ne, RunS.al H7, f4, f5]
    refine ifB_dec (fun c2 => ?_) (fun c2 => ?_)
    · rw [if_pos c2] at k
      try simp +decide only [nilC, bsx, Nat.reduceAdd, Int.reduceLE, Int.reduceLT, Int.reduceToNat, rsx, g_s, g_s_ne, RunS.al H7, f4, f5]
      refine callV_fn (lrNext_call H7 fun h8 o8 => ?_)
      have H8 := RunS.old H7 o8
      try simp +decide only [nilC, bsx, Nat.reduceAdd, Int.reduceLE, Int.reduceLT, Int.reduceToNat, rsx, g_s, g_s_ne, RunS.al H8, f4, f5]
      exact RunS.stR (i := 4) H8 rfl (wptr_U _) fun h9 H9 => k h9 (RunS.drp (RunS.none H9))
    · rw [if_neg c2] at k
      exact k h96 (RunS.drp (RunS.none H7))
  rw [if_neg c] at k
  exact k h1 (RunS.drp (RunS.none H1))
theorem lrCut_call (H : Sat h (RunS M T tv (some (b, o)) x R)) (O : Ok x) (k : ∀ h', Sat h' (RunS M T tv none (lrCut x) R) → K (.tuple #[]) h') :
    CallH Tryz.prog 124 #[rV M T b o] h K := by
  refine call124 ?_
  unfold F124 g124 cf ce bd lP lI nP
  have B := RunS.fB H
  have P := RunS.pl H
  unfold lrCut at k
  dsimp only at k
  have H1 := RunS.new H (.cells #[mP M, mP T, fP b o] 124); generalize h.push (.cells #[mP M, mP T, fP b o] 124) = h1 at *; generalize h.size = N at *
  try simp +decide only [nilC, bsx, Nat.reduceAdd, Int.reduceLE, Int.reduceLT, Int.reduceToNat, rsx, g_s, g_s_ne, RunS.al H1]
  refine ifB_dec (fun c => ?_) (fun c => ?_)
  · rw [if_pos c] at k
    refine RunS.stP H1 fun h2 H2 => ?_
    try simp +decide only [nilC, bsx, Nat.reduceAdd, Int.reduceLE, Int.reduceLT, Int.reduceToNat, rsx, g_s, g_s_ne, RunS.al H2]
    refine callV_fn (lnLink_call H2 fun h3 o3 => ?_)
    have H3 := RunS.old H2 o3
    try simp +decide only [nilC, bsx, Nat.reduceAdd, Int.reduceLE, Int.reduceLT, Int.reduceToNat, rsx, g_s, g_s_ne, RunS.al H3]
    refine callV_fn (lnSwing_call H3 (node_iN P _ _) (B.g 1) O.st fun h5 H5 => ?_)
    try simp +decide only [nilC, bsx, Nat.reduceAdd, Int.reduceLE, Int.reduceLT, Int.reduceToNat, rsx, g_s, g_s_ne, RunS.al H5]
    refine ifB_mk (fun c2 => ?_) (fun c2 => ?_)
    · rw [if_pos c2] at k
      exact RunS.stP H5 fun h90 H90 => k h90 (RunS.drp (RunS.none H90))
    · rw [if_neg (by rw [c2]; simp)] at k
      exact k h5 (RunS.drp (RunS.none H5))
  rw [if_neg c] at k
  refine ifB_dec (fun c => ?_) (fun c => ?_)
  · rw [if_pos c] at k
    have hd := O.fr
    exact callV_fn (lnCallN H1 [0] rfl (one_U U0) rfl (by omega) fun h4 b' o' _ _ H4 => k h4 (RunS.drp (RunS.none H4)))
  rw [if_neg c] at k
  refine ifB_dec (fun c => ?_) (fun c => ?_)
  · rw [if_pos c] at k
    have hd := O.fr
    refine callV_fn (lnPtr_call (B.g 1) ?_)
    try simp +decide only [nilC, bsx, Nat.reduceAdd, Int.reduceLE, Int.reduceLT, Int.reduceToNat, rsx, g_s, g_s_ne, RunS.al H1]
    exact callV_fn (lnCallN H1 [wptr (x.f.g 1), x.f.g 4] rfl (two_U (wptr_U _) (B.g 4)) rfl (by omega) fun h4 b' o' _ _ H4 => k h4 (RunS.drp (RunS.none H4)))
  rw [if_neg c] at k
  have hd := O.fr
  exact callV_fn (lnEnd_call H1 (U.lit rfl) (B.g 8) (B.g 6) (by omega) fun h5 b' o' H5 => k h5 (RunS.drp (RunS.none H5)))
theorem lrStep_call (H : Sat h (RunS M T tv (some (b, o)) x R)) (O : Ok x) (k : ∀ h', Sat h' (RunS M T tv none (lrStep x) R) → K (.tuple #[]) h') :
    CallH Tryz.prog 60 #[rV M T b o] h K := by
  refine call60 ?_
  unfold F60 g60 cf lP lI nP
  have B := RunS.fB H
  have P := RunS.pl H
  unfold lrStep at k
  have H1 := RunS.new H (.cells #[mP M, mP T, fP b o] 124); generalize h.push (.cells #[mP M, mP T, fP b o] 124) = h1 at *; generalize h.size = N at *
  try simp +decide only [nilC, bsx, Nat.reduceAdd, Int.reduceLE, Int.reduceLT, Int.reduceToNat, rsx, g_s, g_s_ne, RunS.al H1]
  refine ifB_dec (fun c => ?_) (fun c => ?_)
  · rw [if_pos c] at k
    exact callV_fn (lrLook_call H1 O fun h2 H2 => k h2 (RunS.drp H2))
  rw [if_neg c] at k
  refine ifB_dec (fun c => ?_) (fun c => ?_)
  · rw [if_pos c] at k
    exact callV_fn (lrOn_call H1 O fun h2 H2 => k h2 (RunS.drp H2))
  rw [if_neg c] at k
  refine ifB_dec (fun c => ?_) (fun c => ?_)
  · rw [if_pos c] at k
    exact callV_fn (lrTell_call H1 O fun h2 H2 => k h2 (RunS.drp H2))
  rw [if_neg c] at k
  exact callV_fn (lrCut_call H1 O fun h2 H2 => k h2 (RunS.drp H2))
theorem lindenDo_call (H : Sat h (RunS M T tv fo x R)) (O : Ok x) (hf : LOk x) (hS : x.f.fn = 31 → LiOk x) (k : ∀ h', Sat h' (RunS M T tv none (lindenDo x) R) → K (.tuple #[]) h') :
    CallH Tryz.prog 28 #[mP M, mP T] h K := by
  refine call28 ?_
  unfold F28 cf bd lI nP
  unfold lindenDo at k
  dsimp only at k
  refine callV_fn (rTop H (fun e => ?_) fun b o hne _ H1 => ?_)
  · rw [if_pos e] at k
    try simp only [nilC, bsx, Nat.reduceAdd, Int.reduceLE, Int.reduceLT, Int.reduceToNat]
    refine ⟨fun vs h' => vs = [.bool true] ∧ h' = h, ⟨rfl, rfl⟩, ?_⟩
    rintro v4 g6 h7 ⟨e, rfl⟩
    cases e
    try simp only [nilC, bsx, Nat.reduceAdd, Int.reduceLE, Int.reduceLT, Int.reduceToNat]
    exact k _ (RunS.none H)
  · rw [if_neg hne] at k
    try simp only [nilC, bsx, Nat.reduceAdd, Int.reduceLE, Int.reduceLT, Int.reduceToNat]
    refine ⟨fun vs h' => vs = [.bool false] ∧ h' = h, ⟨rfl, rfl⟩, ?_⟩
    rintro v4 g6 h7 ⟨e, rfl⟩
    cases e
    have B := RunS.fB H1
    try simp only [nilC, bsx, Nat.reduceAdd, Int.reduceLE, Int.reduceLT, Int.reduceToNat]
    have H2 := RunS.new H1 (.cells #[.pointer none, .pointer none, .pointer none] 118)
    generalize h7.push (.cells #[.pointer none, .pointer none, .pointer none] 118) = h2 at *
    generalize h7.size = N at *
    refine st3 (stN_full (vs := [mP M, mP T, fP b o]) (RunS.loc H2) rfl (by simp [oneC]) fun h3 w => ?_)
    have H3 := RunS.wr H2 w.new w.old
    clear H2 w
    try simp +decide only [nilC, bsx, Nat.reduceAdd, Int.reduceLE, Int.reduceLT, Int.reduceToNat, rsx, g_s, g_s_ne, RunS.al H3]
    refine ⟨fun vs h' => (∃ w, vs = [.bool (decide (x.f.fn < 31 ∨ 36 < x.f.fn)), w]) ∧ h' = h3, ?_, ?_⟩
    · refine ifB_dec (fun c => ?_) (fun c => ?_)
      · rw [decide_eq_true (p := x.f.fn < 31 ∨ 36 < x.f.fn) (by omega)]
        exact ⟨⟨_, rfl⟩, by trivial⟩
      · rw [show decide (x.f.fn > 36) = decide (x.f.fn < 31 ∨ 36 < x.f.fn) by rw [decide_eq_decide]; omega]
        exact ⟨⟨_, rfl⟩, by trivial⟩
    rintro v18 v19 g20 h21 ⟨⟨w, e⟩, rfl⟩
    cases e
    try simp +decide only [nilC, bsx, Nat.reduceAdd, Int.reduceLE, Int.reduceLT, Int.reduceToNat, rsx, g_s, g_s_ne, RunS.al H3]
    refine ifB_dec (fun c => ?_) (fun c => ?_)
    · rw [if_pos c] at k
      exact callV_fn (locateDo_call H3 O hf fun h4 H4 => k h4 (RunS.drp H4))
    rw [if_neg c] at k
    refine ifB_dec (fun c => ?_) (fun c => ?_)
    · rw [if_pos c] at k
      exact callV_fn (popN H3 [x.f.g 7, x.f.g 8, x.f.g 9] rfl (three_U (B.g 7) (B.g 8) (B.g 9)) rfl fun h4 H4 => k h4 (RunS.drp H4))
    rw [if_neg c] at k
    refine ifB_dec (fun c => ?_) (fun c => ?_)
    · rw [if_pos c] at k
      exact callV_fn (liStep_call H3 O (hS c) fun h4 H4 => k h4 (RunS.drp H4))
    rw [if_neg c] at k
    refine ifB_dec (fun c => ?_) (fun c => ?_)
    · rw [if_pos c] at k
      exact callV_fn (tdStep_call H3 O fun h4 H4 => k h4 (RunS.drp H4))
    rw [if_neg c] at k
    refine ifB_dec (fun c => ?_) (fun c => ?_)
    · rw [if_pos c] at k
      exact callV_fn (ctStep_call H3 O fun h4 H4 => k h4 (RunS.drp H4))
    rw [if_neg c] at k
    refine ifB_dec (fun c => ?_) (fun c => ?_)
    · rw [if_pos c] at k
      exact callV_fn (mvStep_call H3 O fun h4 H4 => k h4 (RunS.drp H4))
    rw [if_neg c] at k
    exact callV_fn (lrStep_call H3 O fun h4 H4 => k h4 (RunS.drp H4))
end
end
section
open Mod
theorem bits_det {d : Run → Run} : ∀ {n m : Nat} {x z w : Run}, Mod.bits d n x = some z → Mod.bits d m x = some w → z = w
  | 0, 0, x, z, w, h1, h2 => by
    rw [h1] at h2; exact Option.some.inj h2
  | 0, m + 1, x, z, w, h1, h2 => by
    unfold Mod.bits at h1 h2
    split at h1
    · rename_i c
      rw [if_pos c] at h2
      rw [h1] at h2; exact Option.some.inj h2
    · cases h1
  | n + 1, 0, x, z, w, h1, h2 => by
    unfold Mod.bits at h1 h2
    split at h2
    · rename_i c
      rw [if_pos c] at h1
      rw [h1] at h2; exact Option.some.inj h2
    · cases h2
  | n + 1, m + 1, x, z, w, h1, h2 => by
    unfold Mod.bits at h1 h2
    split at h1
    · rename_i c
      rw [if_pos c] at h2
      rw [h1] at h2; exact Option.some.inj h2
    · rename_i c
      rw [if_neg c] at h2
      exact bits_det h1 h2
open Classical in
noncomputable def stepF (d : Run → Run) (x : Run) : Run := if h : ∃ z, ∃ n, Mod.bits d n x = some z then h.choose else x
theorem stepF_eq {d : Run → Run} {n : Nat} {x z : Run} (h : Mod.bits d n x = some z) : stepF d x = z := by
  have hh : ∃ z, ∃ n, Mod.bits d n x = some z := ⟨z, n, h⟩
  unfold stepF
  rw [dif_pos hh]
  obtain ⟨m, hm⟩ := hh.choose_spec
  exact bits_det hm h
def thrAt (m : Mac) (k : Nat) : Thr := m.th.getD k (thr0 m.p.c)
def ansOf (t : Thr) : Cl := ⟨s64 (t.ret.getD 0 0), u32 (t.ret.getD 1 0), u32 (t.ret.getD 2 0)⟩
def cl0 : Cl := ⟨0, 0, 0⟩
def DS.enter (ins : Int) (calls : List (List Cl)) (s : DS) (k : Nat) : Option DS :=
  if (thrAt s.m k).fr = [] then
    if (calls.getD k []).length ≤ (s.nx.getD k 0).toNat then none
    else some ⟨s.m.setTh (s.m.th.set k ((thrAt s.m k).push (ins + ((calls.getD k []).getD (s.nx.getD k 0).toNat cl0).op) [((calls.getD k []).getD (s.nx.getD k 0).toNat cl0).key, ((calls.getD k []).getD (s.nx.getD k 0).toNat cl0).val])), s.nx.set k (s.nx.getD k 0 + 1), s.cu.set k ((calls.getD k []).getD (s.nx.getD k 0).toNat cl0), s.ev ++ [⟨k, false, (calls.getD k []).getD (s.nx.getD k 0).toNat cl0, cl0⟩]⟩
  else some s
noncomputable def DS.go (d : Run → Run) (s : DS) (k : Nat) : DS :=
  if (stepF d ⟨s.m.quiet, thrAt s.m k, k⟩).t.fr = [] then ⟨(stepF d ⟨s.m.quiet, thrAt s.m k, k⟩).m.setTh (s.m.th.set k (stepF d ⟨s.m.quiet, thrAt s.m k, k⟩).t), s.nx, s.cu, s.ev ++ [⟨k, true, cl0, ansOf (stepF d ⟨s.m.quiet, thrAt s.m k, k⟩).t⟩]⟩
  else ⟨(stepF d ⟨s.m.quiet, thrAt s.m k, k⟩).m.setTh (s.m.th.set k (stepF d ⟨s.m.quiet, thrAt s.m k, k⟩).t), s.nx, s.cu, s.ev⟩
noncomputable def DS.pick (d : Run → Run) (ins : Int) (calls : List (List Cl)) (s : DS) (k : Int) : DS := match s.enter ins calls k.toNat with
  | none => s
  | some s1 => s1.go d k.toNat
noncomputable def driveM (d : Run → Run) (ins : Int) (calls : List (List Cl)) (m : Mac) (picks : List Int) : DS := picks.foldl (fun s k => s.pick d ins calls k) ⟨m, List.replicate calls.length 0, List.replicate calls.length cl0, []⟩
structure GoodI (d : Run → Run) (W : Run → Prop) (ins : Int) (Inv : Nat → Mac → Prop) : Prop where
  mono : ∀ (i : Nat) (m : Mac), Inv i m → Inv (i + 1) m
  wd : ∀ i m, Inv i m → WdOk m ∧ 2 < m.mm.w.length
  push : ∀ (i : Nat) (m : Mac) (k : Nat) (t : Thr) (c : Cl), Inv i m → m.th[k]? = some t → t.fr = [] → 0 ≤ c.op ∧ c.op ≤ 2 → V c.key → V c.val → Inv i (m.setTh (m.th.set k (t.push (ins + c.op) [c.key, c.val])))
  step : ∀ (i : Nat) (m : Mac) (k : Nat) (t : Thr), Inv i m → i < 100000 → m.th[k]? = some t → t.fr ≠ [] → ∃ n z, Mod.bits d n ⟨m.quiet, t, k⟩ = some z ∧ Safe d W n ⟨m.quiet, t, k⟩ ∧ z.id = k ∧ z.m.th = m.th ∧ Inv (i + 1) (z.m.setTh (m.th.set k z.t))
structure ScrF (h : Heap) (ca : Option Addr) (cl : Nat) (pa : Option Addr) (pl : Nat) (calls : List (List Cl)) (picks : List Int) : Prop where
  cs : cl = calls.length
  row : ∀ i, i < calls.length → ∃ a c, (∃ ad, ca = some ad ∧ cellAt h (ad.add i) = some (.slice a (calls.getD i []).length c)) ∧ Sees h a ((calls.getD i []).flatMap clc)
  ps : pl = picks.length
  pk : Sees h pa (picks.map iv)
structure ScrOk (calls : List (List Cl)) (picks : List Int) : Prop where
  n : 1 ≤ calls.length ∧ calls.length ≤ 6
  cl : ∀ l ∈ calls, l.length ≤ 1000 ∧ ∀ c ∈ l, (0 ≤ c.op ∧ c.op ≤ 2) ∧ V c.key ∧ V c.val
  pk : picks.length ≤ 60000 ∧ ∀ k ∈ picks, 0 ≤ k ∧ k < calls.length
theorem fitsCl_call {K : Value → Heap → Prop} {h : Heap} {c a : Cl} (k : ∀ h', Old h.size h h' → K (.bool (fitsB ⟨c.op, c.key, c.val⟩ ⟨a.op, a.key, a.val⟩)) h') :
    CallH Tryz.prog 48 #[.agg #[.int .i64 c.op, .int .u32 c.key, .int .u32 c.val], .agg #[.int .i64 a.op, .int .u32 a.key, .int .u32 a.val]] h K :=
  refFits_call (c := ⟨c.op, c.key, c.val⟩) (a := ⟨a.op, a.key, a.val⟩) k
theorem make_bl {K : Value → Heap → Prop} {h : Heap} {n : Nat} (hn : n ≤ 4096) (k : K (.slice (some ⟨h.size, 0, none⟩) n n) (h.push (.cells ((List.replicate n false).map bv).toArray 4))) : mkSlH Tryz.prog 4 (n : Int) (n : Int) h K := by
  have e1 : zcells Tryz.prog 4 = [.bool false] := by kernel_rfl
  have e2 : byt Tryz.prog 4 = 1 := by kernel_rfl
  unfold mkSlH
  refine ⟨by omega, by omega, by omega, by rw [e2]; omega, ?_⟩
  rw [e1, flat_rep, Int.toNat_natCast]
  rw [List.map_replicate] at k
  exact k
theorem make_cl {K : Value → Heap → Prop} {h : Heap} {n : Nat} (hn : n ≤ 4096) (k : K (.slice (some ⟨h.size, 0, none⟩) n n) (h.push (.cells ((List.replicate n cl0).flatMap clc).toArray 53))) : mkSlH Tryz.prog 53 (n : Int) (n : Int) h K := by
  have e1 : zcells Tryz.prog 53 = clc cl0 := by kernel_rfl
  have e2 : byt Tryz.prog 53 = 16 := by kernel_rfl
  unfold mkSlH
  refine ⟨by omega, by omega, by omega, by rw [e2]; omega, ?_⟩
  rw [e1, Int.toNat_natCast]
  rw [List.flatMap_def, List.map_replicate] at k
  exact k
structure DOk (Inv : Nat → Mac → Prop) (calls : List (List Cl)) (j : Nat) (s : DS) : Prop where
  inv : Inv j s.m
  th : s.m.th.length = calls.length
  nx : ∀ k, k < calls.length → 0 ≤ s.nx.getD k 0 ∧ s.nx.getD k 0 ≤ (calls.getD k []).length
  ev : s.ev.length ≤ 2 * j
section
variable {K : Value → Heap → Prop} {h : Heap} {M : Nat} {B : DB} {Ts : List Nat} {R : Hp} {d : Run → Run} {W : Run → Prop} {ins : Int} {Inv : Nat → Mac → Prop} {calls : List (List Cl)}
theorem drvS_push {s : DS} (H : Sat h (drvS B M Ts calls.length s * R)) {k T : Nat} {c : Cl} (hk : Ts[k]? = some T) (hth : s.m.th.length = calls.length) (hk2 : k < calls.length) (he : (thrAt s.m k).fr = []) (hc : U c.key) (hv : U c.val) (F : Value → Heap → Prop)
    (kk : ∀ h', Sat h' (drvS B M Ts calls.length { s with m := s.m.setTh (s.m.th.set k ((thrAt s.m k).push (ins + c.op) [c.key, c.val])) } * R) → F (.tuple #[]) h') :
    CallH Tryz.prog 38 #[mP T, .int .i64 (ins + c.op), .slice (some ⟨h.size, 0, none⟩) 2 2] (h.push (.cells #[.int .u64 c.key, .int .u64 c.val] 65)) F := by
  obtain ⟨Q, H1, re⟩ := drvS_mac H
  have hlt : k < s.m.th.length := by omega
  have ht : s.m.th[k]? = some (thrAt s.m k) := by unfold thrAt; rw [List.getElem?_eq_getElem hlt]; simp [hlt]
  obtain ⟨tv, Q2, H2, re2⟩ := machS_take H1 hk ht
  refine rPushN H2 [c.key, c.val] rfl (two_U hc hv) (by omega) (by show (thrAt s.m k).fr.length < _; rw [he]; decide) fun h' b o _ _ H3 => kk h' ?_
  exact re _ _ _ (re2 _ _ _ rfl (RunS.none H3))
theorem drvS_step {f : Nat} (D : DoC f d W) (G : GoodI d W ins Inv) {s : DS} {j : Nat} (H : Sat h (drvS B M Ts calls.length s * R)) {k T : Nat} (hk : Ts[k]? = some T) (hth : s.m.th.length = calls.length) (hk2 : k < calls.length) (hI : Inv j s.m) (hj : j < 100000) (hne : (thrAt s.m k).fr ≠ []) (F : Value → Heap → Prop)
    (kk : ∀ h' z, z = stepF d ⟨s.m.quiet, thrAt s.m k, k⟩ → Inv (j + 1) (z.m.setTh (s.m.th.set k z.t)) → Sat h' (drvS B M Ts calls.length { s with m := z.m.setTh (s.m.th.set k z.t) } * R) → F (.bool (!z.t.fr.isEmpty)) h') :
    CallH Tryz.prog 40 #[mP M, .int .i64 k, .func (.func f) #[] #[]] h F := by
  obtain ⟨Q, H1, re⟩ := drvS_mac H
  have hlt : k < s.m.th.length := by omega
  have ht : s.m.th[k]? = some (thrAt s.m k) := by unfold thrAt; rw [List.getElem?_eq_getElem hlt]; simp [hlt]
  obtain ⟨n, z, hb, hs, hid, _, hI2⟩ := G.step j s.m k _ hI hj ht hne
  refine stepLoop_call D H1 (n := n) (z := z) (i := k) (by omega) (by rw [Int.toNat_natCast]; exact ht) hb hs hid fun h' H2 => ?_
  rw [Int.toNat_natCast] at H2
  exact kk h' z (stepF_eq hb).symm hI2 (re _ _ _ H2)
theorem drvS_room (G : GoodI d W ins Inv) {s : DS} {j : Nat} {n : Nat} (H : Sat h (drvS B M Ts n s * R)) (hI : Inv j s.m) {c : Mod.Cf} {F : Value → Heap → Prop} (kk : ∀ h' b, Sat h' (drvS B M Ts n s * R) → F (.bool b) h') :
    CallH Tryz.prog 47 #[mP M, cfV c] h F := by
  obtain ⟨Q, H1, re⟩ := drvS_mac H
  obtain ⟨a, cc, hl, H2⟩ := machS_iff.1 H1
  obtain ⟨w1, w2⟩ := G.wd j s.m hI
  exact room_call H2 w1 w2 fun h' b H3 => kk h' b (re h' s.m R (machS_iff.2 ⟨a, cc, hl, H3⟩))
theorem drvS_fault {s : DS} {n : Nat} (H : Sat h (drvS B M Ts n s * R)) {F : Value → Heap → Prop} (kk : ∀ h', Sat h' (drvS B M Ts n s * R) → F (.bool s.m.fault) h') :
    CallH Tryz.prog 39 #[mP M] h F := by
  obtain ⟨Q, H1, re⟩ := drvS_mac H
  obtain ⟨a, cc, hl, H2⟩ := machS_iff.1 H1
  exact fault_call H2 fun h' H3 => kk h' (re h' s.m R (machS_iff.2 ⟨a, cc, hl, H3⟩))
theorem drvS_answer {s : DS} {n : Nat} (H : Sat h (drvS B M Ts n s * R)) {k T : Nat} (hk : Ts[k]? = some T) (hlt : k < s.m.th.length) {F : Value → Heap → Prop}
    (kk : ∀ h', Sat h' (drvS B M Ts n s * R) → F (.agg #[.int .i64 (ansOf (thrAt s.m k)).op, .int .u32 (ansOf (thrAt s.m k)).key, .int .u32 (ansOf (thrAt s.m k)).val]) h') :
    CallH Tryz.prog 41 #[mP T] h F := by
  obtain ⟨Q, H1, re⟩ := drvS_mac H
  have ht : s.m.th[k]? = some (thrAt s.m k) := by unfold thrAt; rw [List.getElem?_eq_getElem hlt]; simp [hlt]
  obtain ⟨tv, Q2, H2, re2⟩ := machS_take H1 hk ht
  refine answer_call (RunS.thr H2) fun h' H3 => kk h' ?_
  have H4 := re h' _ R (re2 h' ⟨s.m, thrAt s.m k, k⟩ (Q * R) rfl (RunS.ofThr H3))
  have e : s.m.setTh (s.m.th.set k (thrAt s.m k)) = s.m := by
    unfold Mod.Mac.setTh
    have : s.m.th.set k (thrAt s.m k) = s.m.th := by
      apply List.ext_getElem (by simp)
      intro i h1 h2
      rw [List.getElem_set]
      split
      · rename_i e; subst e; exact (List.getElem?_eq_some_iff.1 ht).2.symm ▸ rfl
      · rfl
    rw [this]
  have H4 : Sat h' (drvS B M Ts n { s with m := s.m.setTh (s.m.th.set k (thrAt s.m k)) } * R) := H4
  rw [e] at H4
  exact H4
theorem drvS_top {s : DS} {n : Nat} (H : Sat h (drvS B M Ts n s * R)) {k T : Nat} (hk : Ts[k]? = some T) (hlt : k < s.m.th.length) {F : Value → Heap → Prop} (k0 : (thrAt s.m k).fr = [] → F (.pointer none) h) (k1 : ∀ b o, (thrAt s.m k).fr ≠ [] → F (.pointer (some ⟨b, o, none⟩)) h) :
    CallH Tryz.prog 42 #[mP T] h F := by
  obtain ⟨Q, H1, re⟩ := drvS_mac H
  have ht : s.m.th[k]? = some (thrAt s.m k) := by unfold thrAt; rw [List.getElem?_eq_getElem hlt]; simp [hlt]
  obtain ⟨tv, Q2, H2, re2⟩ := machS_take H1 hk ht
  exact rTop H2 (fun e => k0 e) fun b o hne _ _ => k1 b o hne
end
end
section
open Mod
theorem make_in {K : Value → Heap → Prop} {h : Heap} {n : Nat} (hn : n ≤ 4096) (k : K (.slice (some ⟨h.size, 0, none⟩) n n) (h.push (.cells ((List.replicate n (0 : Int)).map iv).toArray 3))) : mkSlH Tryz.prog 3 (n : Int) (n : Int) h K := by
  refine make_i (by omega) ?_
  rw [Int.toNat_natCast]
  exact k
def scrC (c : Mod.Cf) (ca : Option Addr) (cl cc : Nat) (pa : Option Addr) (pl pc : Nat) (da : Option Addr) (dl dc : Nat) : List Value := [.int .i64 c.algo, .int .i64 c.threads, .int .i64 c.nodes, .int .i64 c.level, .int .i64 c.batch, .int .i64 c.probes, .int .i64 c.scan, .slice ca cl cc, .slice pa pl pc, .slice da dl dc]
section
variable {K : Value → Heap → Prop} {h : Heap} {M : Nat} {Ts : List Nat} {R : Hp} {d : Run → Run} {W : Run → Prop} {ins : Int} {Inv : Nat → Mac → Prop} {calls : List (List Cl)} {picks : List Int} {m : Mac}
theorem drive_call {f : Nat} (D : DoC f d W) (G : GoodI d W ins Inv) (S : ScrOk calls picks) (hins : 0 ≤ ins ∧ ins ≤ 100) {c : Mod.Cf} {ca pa da : Option Addr} {cl cc pl pc dl dc : Nat} (H : Sat h (machS M Ts m * R)) (hT : Ts.length = calls.length) (hth : m.th.length = calls.length) (hI : Inv 0 m)
    (hS : ∀ h' P, Sat h' (P * R) → ScrF h' ca cl pa pl calls picks)
    (k : ∀ h' ea ec o r bz, Sat h' (ownS 59 8 ea (driveM d ins calls m picks).ev.length ec ((driveM d ins calls m picks).ev.flatMap evc) * (machS M Ts (driveM d ins calls m picks).m * R)) → K (.agg #[.slice ea (driveM d ins calls m picks).ev.length ec, .bool o, .bool r, .int .i64 bz]) h') :
    CallH Tryz.prog 23 #[.agg #[.func (.func f) #[] #[], .int .i64 ins], mP M, .agg #[.int .i64 c.algo, .int .i64 c.threads, .int .i64 c.nodes, .int .i64 c.level, .int .i64 c.batch, .int .i64 c.probes, .int .i64 c.scan, .slice ca cl cc, .slice pa pl pc, .slice da dl dc]] h K := by
  refine call23 ?_
  unfold F23 g23 q23_1 cf ce bd lS lI
  have hn := S.n
  have H1 := H.push (.cells #[.func (.func f) #[] #[], .int .i64 ins] 37)
  generalize h.push (.cells #[.func (.func f) #[] #[], .int .i64 ins] 37) = h1 at *
  generalize h.size = QB at *
  have H2 := H1.push (.cells (scrC c ca cl cc pa pl pc da dl dc).toArray 28)
  rw [show (.cells #[.int .i64 c.algo, .int .i64 c.threads, .int .i64 c.nodes, .int .i64 c.level, .int .i64 c.batch, .int .i64 c.probes, .int .i64 c.scan, .slice ca cl cc, .slice pa pl pc, .slice da dl dc] 28 : Obj) = .cells (scrC c ca cl cc pa pl pc da dl dc).toArray 28 from rfl]
  generalize h1.push (.cells (scrC c ca cl cc pa pl pc da dl dc).toArray 28) = h2 at *
  generalize h1.size = SB at *
  have H3 := H2.push (.cells (playC none 0 0 false false 0).toArray 56)
  rw [show (.cells #[.slice none 0 0, .bool false, .bool false, .int .i64 0] 56 : Obj) = .cells (playC none 0 0 false false 0).toArray 56 from rfl]
  generalize h2.push (.cells (playC none 0 0 false false 0).toArray 56) = h3 at *
  generalize h2.size = PR at *
  have H4 := H3.push (.cells (playC none 0 0 false false 0).toArray 56)
  generalize h3.push (.cells (playC none 0 0 false false 0).toArray 56) = h4 at *
  generalize h3.size = PB at *
  refine ldR H4.at3 rfl ?_
  try simp only [nilC, bsx, Nat.reduceAdd, Int.reduceLE, Int.reduceLT, Int.reduceToNat]
  have hcl := (hS h4 _ (show Sat h4 ((pt PB (.cells (playC none 0 0 false false 0).toArray 56) * (pt PR (.cells (playC none 0 0 false false 0).toArray 56) * (pt SB (.cells (scrC c ca cl cc pa pl pc da dl dc).toArray 28) * (pt QB (.cells #[.func (.func f) #[] #[], .int .i64 ins] 37) * machS M Ts m)))) * R) from Sat.ac H4 (by ac_rfl))).cs
  subst hcl
  refine make_in (by omega) ?_
  try simp only [nilC, bsx, Nat.reduceAdd, Int.reduceLE, Int.reduceLT, Int.reduceToNat]
  have H5 := H4.push (.cells ((List.replicate calls.length (0 : Int)).map iv).toArray 3)
  generalize h4.push (.cells ((List.replicate calls.length (0 : Int)).map iv).toArray 3) = h5 at *
  generalize h4.size = NB at *
  refine make_bl (by omega) ?_
  try simp only [nilC, bsx, Nat.reduceAdd, Int.reduceLE, Int.reduceLT, Int.reduceToNat]
  have H6 := H5.push (.cells ((List.replicate calls.length false).map bv).toArray 4)
  generalize h5.push (.cells ((List.replicate calls.length false).map bv).toArray 4) = h6 at *
  generalize h5.size = TB at *
  refine make_cl (by omega) ?_
  try simp only [nilC, bsx, Nat.reduceAdd, Int.reduceLE, Int.reduceLT, Int.reduceToNat]
  have H7 := (H6.push (.cells ((List.replicate calls.length cl0).flatMap clc).toArray 53)).own_new 59 8
  generalize h6.push (.cells ((List.replicate calls.length cl0).flatMap clc).toArray 53) = h7 at *
  generalize h6.size = CB at *
  generalize hs0 : (⟨m, List.replicate calls.length 0, List.replicate calls.length cl0, []⟩ : DS) = s0
  have H8 : Sat h7 (drvS ⟨PB, NB, TB, CB⟩ M Ts calls.length s0 * (pt SB (.cells (scrC c ca calls.length cc pa pl pc da dl dc).toArray 28) * (pt QB (.cells #[.func (.func f) #[] #[], .int .i64 ins] 37) * (pt PR (.cells (playC none 0 0 false false 0).toArray 56) * R)))) := by
    subst hs0
    have H9 : Sat h7 (pt PB (.cells (playC none 0 0 false false 0).toArray 56) * (ownS 59 8 none 0 0 [] * (pt NB (.cells ((List.replicate calls.length (0 : Int)).map iv).toArray 3) * (pt TB (.cells ((List.replicate calls.length false).map bv).toArray 4) * (pt CB (.cells ((List.replicate calls.length cl0).flatMap clc).toArray 53) * (machS M Ts m * (pt SB (.cells (scrC c ca calls.length cc pa pl pc da dl dc).toArray 28) * (pt QB (.cells #[.func (.func f) #[] #[], .int .i64 ins] 37) * (pt PR (.cells (playC none 0 0 false false 0).toArray 56) * R))))))))) := Sat.ac H7 (by ac_rfl)
    exact drvS_iff.2 ⟨none, 0, false, false, 0, List.replicate calls.length false, ⟨by simp, by simp, by simp⟩, H9⟩
  have D8 : DOk Inv calls 0 s0 := by
    subst hs0
    refine ⟨hI, hth, fun k hk => ?_, by simp⟩
    simp [hk]
  clear H1 H2 H3 H4 H5 H6 H7
  have hfold : driveM d ins calls m picks = picks.foldl (fun s k => s.pick d ins calls k) s0 := by subst hs0; rfl
  rw [hfold] at k
  clear hfold hs0
  -- what holds between two picks
  have scr : ∀ {h : Heap} {X : Hp}, Sat h (X * (pt SB (.cells (scrC c ca calls.length cc pa pl pc da dl dc).toArray 28) * (pt QB (.cells #[.func (.func f) #[] #[], .int .i64 ins] 37) * (pt PR (.cells (playC none 0 0 false false 0).toArray 56) * R)))) → h[SB]? = some (.cells (scrC c ca calls.length cc pa pl pc da dl dc).toArray 28) ∧ h[QB]? = some (.cells #[.func (.func f) #[] #[], .int .i64 ins] 37) ∧ ScrF h ca calls.length pa pl calls picks := by
    intro h X H
    refine ⟨H.drop.at, H.drop.drop.at, hS h emp ?_⟩
    rw [emp_star]
    exact H.drop.drop.drop.drop
  obtain ⟨sc1, sq1, sf1⟩ := scr H8
  have hpl := sf1.ps
  subst hpl
  generalize hFR : pt SB (.cells (scrC c ca calls.length cc pa picks.length pc da dl dc).toArray 28) * (pt QB (.cells #[.func (.func f) #[] #[], .int .i64 ins] 37) * (pt PR (.cells (playC none 0 0 false false 0).toArray 56) * R)) = FR at scr H8
  refine ⟨fun vs h' => ∃ (j : Nat) (u1 u2 u3 u4 u5 : Value), vs = [.int .i64 j, u1, u2, u3, u4, u5] ∧ j ≤ picks.length ∧ DOk Inv calls j ((picks.take j).foldl (fun s k => s.pick d ins calls k) s0) ∧ Sat h' (drvS ⟨PB, NB, TB, CB⟩ M Ts calls.length ((picks.take j).foldl (fun s k => s.pick d ins calls k) s0) * FR), fun vs _ => match vs with | [.int _ i, _, _, _, _, _] => (picks.length - i).toNat | _ => 0, ⟨0, _, _, _, _, _, rfl, Nat.zero_le _, D8, H8⟩, ?_⟩
  rintro v21 v22 v23 v24 v25 v26 g27 h28 ⟨j, u1, u2, u3, u4, u5, e, hj, DJ, HJ⟩
  cases e
  clear H8 D8 sc1 sq1 sf1
  generalize hsj : (picks.take j).foldl (fun s k => s.pick d ins calls k) s0 = sj at *
  obtain ⟨sc1, sq1, sf1⟩ := scr HJ
  try simp only [nilC, bsx, Nat.reduceAdd, Int.reduceLE, Int.reduceLT, Int.reduceToNat]
  refine ldR sc1 rfl ?_
  try simp only [nilC, bsx, Nat.reduceAdd, Int.reduceLE, Int.reduceLT, Int.reduceToNat]
  refine ifB_dec (fun c1 => ?_) (fun c1 => ?_)
  · have hjlt : j < picks.length := by omega
    have hpk := S.pk.2 _ (List.getElem_mem hjlt)
    have hnext : (picks.take (j + 1)).foldl (fun s k => s.pick d ins calls k) s0 = sj.pick d ins calls picks[j] := by
      rw [List.take_succ_eq_append_getElem hjlt, List.foldl_append, hsj]
      rfl
    have hj5 : j < 100000 := by have := S.pk.1; omega
    refine ⟨fun vs h' => (∃ w1 w2 w3 w4 w5 : Value, vs = [w1, w2, w3, w4, w5]) ∧ DOk Inv calls (j + 1) (sj.pick d ins calls picks[j]) ∧ Sat h' (drvS ⟨PB, NB, TB, CB⟩ M Ts calls.length (sj.pick d ins calls picks[j]) * FR), ?_, ?_⟩
    · refine ldR sc1 rfl ?_
      try simp only [nilC, bsx, Nat.reduceAdd, Int.reduceLE, Int.reduceLT, Int.reduceToNat]
      refine ⟨by omega, by omega, ?_⟩
      obtain ⟨ad, ea, hc⟩ := sf1.pk j (.int .i64 picks[j]) (by rw [List.getElem?_map, List.getElem?_eq_getElem hjlt]; rfl)
      subst ea
      try simp only [nilC, bsx, Nat.reduceAdd, Int.reduceLE, Int.reduceLT, Int.reduceToNat]
      refine ldH_mk hc ?_
      try simp only [nilC, bsx, Nat.reduceAdd, Int.reduceLE, Int.reduceLT, Int.reduceToNat]
      obtain ⟨kk, hkk⟩ : ∃ kk : Nat, picks[j] = kk := ⟨picks[j].toNat, by omega⟩
      rw [hkk] at hpk ⊢
      have hk2 : kk < calls.length := by omega
      obtain ⟨T, hTk⟩ : ∃ T, Ts[kk]? = some T := ⟨_, List.getElem?_eq_getElem (by omega)⟩
      have hth2 := DJ.th
      obtain ⟨Qm, HM, _⟩ := drvS_mac HJ
      refine callV_fn (thread_call HM (fun hh => by omega) fun T2 _ hT2 => ?_)
      rw [Int.toNat_natCast, hTk] at hT2
      cases hT2
      try simp only [nilC, bsx, Nat.reduceAdd, Int.reduceLE, Int.reduceLT, Int.reduceToNat]
      clear HM
      refine ⟨fun vs h' => (∃ w, vs = [w, .bool false]) ∧ h' = h28, ?_, ?_⟩
      · refine ifB_dec (fun hh => by omega) (fun _ => ?_)
        refine ifB_dec (fun hh => by omega) (fun _ => ?_)
        exact ⟨⟨_, rfl⟩, rfl⟩
      rintro v47 v48 g49 h50 ⟨⟨w, e⟩, rfl⟩
      cases e
      try simp only [nilC, bsx, Nat.reduceAdd, Int.reduceLE, Int.reduceLT, Int.reduceToNat]
      refine ⟨fun _ h' => ∃ s1, sj.enter ins calls kk = some s1 ∧ Inv j s1.m ∧ s1.m.th.length = calls.length ∧ (∀ k, k < calls.length → 0 ≤ s1.nx.getD k 0 ∧ s1.nx.getD k 0 ≤ (calls.getD k []).length) ∧ s1.ev.length ≤ 2 * j + 1 ∧ (thrAt s1.m kk).fr ≠ [] ∧ Sat h' (drvS ⟨PB, NB, TB, CB⟩ M Ts calls.length s1 * FR), ?_, ?_⟩
      · refine callV_fn (drvS_top HJ hTk (by omega) (fun he => ?_) fun b o hne => ?_)
        · have nxk := DJ.nx kk hk2
          have hcN := drvS_nx HJ hk2
          dsimp only at hcN
          obtain ⟨ra, rc, ⟨ad2, ea2, hcr⟩, hrow⟩ := sf1.row kk hk2
          subst ea2
          try simp only [nilC, bsx, Nat.reduceAdd, Int.reduceLE, Int.reduceLT, Int.reduceToNat]
          refine ⟨by omega, by omega, ?_⟩
          refine ldH_mk hcN ?_
          try simp only [nilC, bsx, Nat.reduceAdd, Int.reduceLE, Int.reduceLT, Int.reduceToNat]
          refine ldR sc1 rfl ?_
          try simp only [nilC, bsx, Nat.reduceAdd, Int.reduceLE, Int.reduceLT, Int.reduceToNat]
          refine ⟨by omega, by omega, ?_⟩
          refine ldH_mk hcr ?_
          try simp only [nilC, bsx, Nat.reduceAdd, Int.reduceLE, Int.reduceLT, Int.reduceToNat]
          refine ifB_dec (fun c2 => ?_) (fun c2 => ?_)
          · have hno : sj.enter ins calls kk = none := by
              unfold DS.enter
              rw [if_pos he, if_pos (by omega)]
            have hpick : sj.pick d ins calls (kk : Int) = sj := by
              unfold DS.pick
              rw [Int.toNat_natCast, hno]
            rw [hpick]
            exact ⟨⟨_, _, _, _, _, rfl⟩, ⟨G.mono _ _ DJ.inv, DJ.th, DJ.nx, by have := DJ.ev; omega⟩, HJ⟩
          · refine ldR sc1 rfl ?_
            try simp only [nilC, bsx, Nat.reduceAdd, Int.reduceLE, Int.reduceLT, Int.reduceToNat]
            refine ⟨by omega, by omega, ?_⟩
            refine ldH_mk hcr ?_
            try simp only [nilC, bsx, Nat.reduceAdd, Int.reduceLE, Int.reduceLT, Int.reduceToNat]
            refine ⟨by omega, by omega, ?_⟩
            refine ldH_mk hcN ?_
            try simp only [nilC, bsx, Nat.reduceAdd, Int.reduceLE, Int.reduceLT, Int.reduceToNat]
            refine ⟨by omega, by omega, ?_⟩
            generalize hq : (sj.nx.getD kk 0).toNat = q at *
            have hqlt : q < (calls.getD kk []).length := by omega
            have hcl : (calls.getD kk []).getD q cl0 = (calls.getD kk [])[q] := by rw [List.getD_eq_getElem?_getD, List.getElem?_eq_getElem hqlt]; rfl
            generalize hcc : (calls.getD kk []).getD q cl0 = cq at *
            have g0 := flat_get clc_len hqlt (j := 0) (by omega)
            have g1 := flat_get clc_len hqlt (j := 1) (by omega)
            have g2 := flat_get clc_len hqlt (j := 2) (by omega)
            rw [← hcl] at g0 g1 g2
            obtain ⟨ad3, ea3, hc0⟩ := hrow (q * 3 + 0) (.int .i64 cq.op) g0
            subst ea3
            obtain ⟨_, ea4, hc1⟩ := hrow (q * 3 + 1) (.int .u32 cq.key) g1
            cases ea4
            obtain ⟨_, ea4, hc2⟩ := hrow (q * 3 + 2) (.int .u32 cq.val) g2
            cases ea4
            have aa : ∀ i, (ad3.add (q * 3)).add i = ad3.add (q * 3 + i) := fun i => add_add _ _ _
            rw [Nat.add_zero] at hc0
            have hmem : calls.getD kk [] ∈ calls := by
              have : calls.getD kk [] = calls[kk] := by rw [List.getD_eq_getElem?_getD, List.getElem?_eq_getElem hk2]; rfl
              rw [this]; exact List.getElem_mem hk2
            have hcB := (S.cl _ hmem).2 cq (by rw [hcl]; exact List.getElem_mem hqlt)
            try simp only [nilC, bsx, Nat.reduceAdd, Int.reduceLE, Int.reduceLT, Int.reduceToNat, aa]
            refine ldH_mk hc0 (ldH_mk hc1 (ldH_mk hc2 ?_))
            refine ⟨cell_push hc0, cell_push hc1, cell_push hc2, cell_push hcN, cell_push hcr, cell_push (cellR sc1 rfl), ?_⟩
            have HL := HJ.push (.cells #[.int .i64 0, .int .u32 0, .int .u32 0] 53)
            generalize h50.push (.cells #[.int .i64 0, .int .u32 0, .int .u32 0] 53) = h97 at *
            generalize h50.size = LB at *
            refine st3 (stN_full (vs := clc cq) HL.at rfl (by simp [clc, oneC]) fun h98 w => ?_)
            have HL2 := HL.wr w.new w.old
            clear HL w
            refine ldR HL2.at rfl (ldR HL2.at rfl (ldR HL2.at rfl ?_))
            refine ⟨by omega, by omega, ?_⟩
            rw [star_left] at HL2
            refine drvS_cust HL2 hk2 (c := cq) fun h99 HL3 => ?_
            refine ⟨by omega, by omega, ?_⟩
            have nx3 := drvS_nx HL3 hk2
            dsimp only at nx3
            refine ldH_mk nx3 ?_
            try simp only [nilC, bsx, Nat.reduceAdd, Int.reduceLE, Int.reduceLT, Int.reduceToNat]
            refine ⟨by omega, by omega, ?_⟩
            have hs1 : s64 (sj.nx.getD kk 0 + 1) = sj.nx.getD kk 0 + 1 := by
              have := (S.cl _ hmem).1
              unfold s64; omega
            rw [hs1]
            refine drvS_nxst HL3 hk2 fun h100 HL4 => ?_
            obtain ⟨ea, ec, o, r, bz, OP⟩ := drvS_play HL4
            refine ldR OP rfl ?_
            have O5 := HL4.at2
            refine ldR O5 rfl (ldR O5 rfl (ldR O5 rfl ?_))
            refine drvS_ev HL4 (e := ⟨kk, false, cq, cl0⟩) (by have := DJ.ev; show sj.ev.length ≤ _; omega) (cellAt_of OP 0) fun h101 HL5 => ?_
            have O6 := HL5.at2
            obtain ⟨_, sq6, _⟩ := scr (X := _ * _) (show Sat h101 ((_ * _) * FR) from by rw [star_assoc]; exact HL5)
            refine ldR sq6 rfl ?_
            try simp only [nilC, bsx, Nat.reduceAdd, Int.reduceLE, Int.reduceLT, Int.reduceToNat]
            refine ldR O6 rfl ?_
            try simp only [nilC, bsx, Nat.reduceAdd, Int.reduceLE, Int.reduceLT, Int.reduceToNat]
            refine ldR O6 rfl ?_
            try simp only [nilC, bsx, Nat.reduceAdd, Int.reduceLE, Int.reduceLT, Int.reduceToNat]
            refine ldR O6 rfl ?_
            obtain ⟨⟨op0, op2⟩, hkey, hval⟩ := hcB
            have hu1 : Mod.u64 cq.key = cq.key := by have := hkey.1; have := hkey.2; unfold Mod.u64; omega
            have hu2 : Mod.u64 cq.val = cq.val := by have := hval.1; have := hval.2; unfold Mod.u64; omega
            have hu3 : s64 (ins + cq.op) = ins + cq.op := by unfold s64; omega
            try simp only [nilC, bsx, Nat.reduceAdd, Int.reduceLE, Int.reduceLT, Int.reduceToNat, hu1, hu2, hu3]
            refine callV_fn (drvS_push HL5 hTk hth2 hk2 he ⟨hkey.1, by have := hkey.2; omega⟩ ⟨hval.1, by have := hval.2; omega⟩ _ fun h102 HL6 => ?_)
            refine ⟨by omega, by omega, ?_⟩
            refine drvS_tgst HL6 hk2 fun h103 HL7 => ?_
            obtain ⟨ea7, ec7, o7, r7, bz7, OP7⟩ := drvS_play HL7
            refine ldR OP7 rfl ?_
            try simp only [nilC, bsx, Nat.reduceAdd, Int.reduceLE, Int.reduceLT, Int.reduceToNat]
            refine drvS_busy HL7 fun h104 HL8 => ?_
            refine ⟨_, ?_, ?_, ?_, ?_, ?_, ?_, HL8.drop2⟩
            · unfold DS.enter
              rw [if_pos he, hq, if_neg (by omega), hcc]
            · have hlt : kk < sj.m.th.length := by omega
              exact G.push j sj.m kk (thrAt sj.m kk) cq DJ.inv (by unfold thrAt; rw [List.getElem?_eq_getElem hlt]; simp [hlt]) he ⟨op0, op2⟩ hkey hval
            · show (sj.m.th.set kk _).length = _
              rw [List.length_set]; exact hth2
            · intro k hk
              have := DJ.nx k hk
              show 0 ≤ (sj.nx.set kk _).getD k 0 ∧ (sj.nx.set kk _).getD k 0 ≤ _
              by_cases ek : kk = k
              · subst ek
                rw [List.getD_eq_getElem?_getD, List.getElem?_set]
                split
                · split
                  · simp only [Option.getD_some]; omega
                  · simp only [Option.getD_none]; omega
                · rename_i hh; exact absurd rfl hh
              · rw [List.getD_eq_getElem?_getD, List.getElem?_set_ne ek, ← List.getD_eq_getElem?_getD]
                exact this
            · have := DJ.ev
              show (sj.ev ++ [_]).length ≤ _
              rw [List.length_append]
              simp only [List.length_singleton]
              omega
            · have hlt : kk < sj.m.th.length := by omega
              have e9 : thrAt (sj.m.setTh (sj.m.th.set kk ((thrAt sj.m kk).push (ins + cq.op) [cq.key, cq.val]))) kk = (thrAt sj.m kk).push (ins + cq.op) [cq.key, cq.val] := by
                unfold thrAt Mod.Mac.setTh
                rw [List.getD_eq_getElem?_getD]
                simp [hlt]
              show (thrAt (sj.m.setTh (sj.m.th.set kk ((thrAt sj.m kk).push (ins + cq.op) [cq.key, cq.val]))) kk).fr ≠ []
              rw [e9]
              unfold Mod.Thr.push
              simp
        · try simp only [nilC, bsx, Nat.reduceAdd, Int.reduceLE, Int.reduceLT, Int.reduceToNat]
          refine ⟨sj, ?_, DJ.inv, hth2, DJ.nx, by have := DJ.ev; omega, hne, HJ⟩
          unfold DS.enter
          rw [if_neg hne]
      · rintro g140 h141 ⟨s1, he1, hI1, ht1, hn1, hv1, hf1, H1⟩
        obtain ⟨sc2, sq2, _⟩ := scr H1
        refine ldR sc2 rfl (ldR sc2 rfl (ldR sc2 rfl (ldR sc2 rfl (ldR sc2 rfl (ldR sc2 rfl (ldR sc2 rfl ?_))))))
        refine callV_fn (drvS_room (c := c) G H1 hI1 fun h150 b H2 => ?_)
        obtain ⟨_, sq3, _⟩ := scr H2
        try simp only [nilC, bsx, Nat.reduceAdd, Int.reduceLE, Int.reduceLT, Int.reduceToNat]
        refine ldR sq3 rfl ?_
        refine callV_fn (drvS_step D G H2 hTk ht1 hk2 hI1 hj5 hf1 _ fun h154 z hz hI2 H3 => ?_)
        have hlt : kk < s1.m.th.length := by omega
        have hthr : thrAt (z.m.setTh (s1.m.th.set kk z.t)) kk = z.t := by
          unfold thrAt Mod.Mac.setTh
          rw [List.getD_eq_getElem?_getD]
          simp [hlt]
        have hpick : sj.pick d ins calls (kk : Int) = s1.go d kk := by
          unfold DS.pick
          rw [Int.toNat_natCast, he1]
        rw [hpick]
        have hgo : s1.go d kk = if z.t.fr = [] then ⟨z.m.setTh (s1.m.th.set kk z.t), s1.nx, s1.cu, s1.ev ++ [⟨kk, true, cl0, ansOf z.t⟩]⟩ else ⟨z.m.setTh (s1.m.th.set kk z.t), s1.nx, s1.cu, s1.ev⟩ := by
          unfold DS.go
          rw [← hz]
        rw [hgo]
        have hth3 : (z.m.setTh (s1.m.th.set kk z.t)).th.length = calls.length := by
          show (s1.m.th.set kk z.t).length = _
          rw [List.length_set]; exact ht1
        obtain ⟨s2, hs2⟩ : ∃ s2 : DS, s2 = ⟨z.m.setTh (s1.m.th.set kk z.t), s1.nx, s1.cu, s1.ev⟩ := ⟨_, rfl⟩
        have H3 : Sat h154 (drvS ⟨PB, NB, TB, CB⟩ M Ts calls.length s2 * FR) := by rw [hs2]; exact H3
        have hI3 : Inv (j + 1) s2.m := by rw [hs2]; exact hI2
        have hth4 : s2.m.th.length = calls.length := by rw [hs2]; exact hth3
        have hthr2 : thrAt s2.m kk = z.t := by rw [hs2]; exact hthr
        have hev2 : s2.ev.length ≤ 2 * j + 1 := by rw [hs2]; exact hv1
        try simp only [nilC, bsx, Nat.reduceAdd, Int.reduceLE, Int.reduceLT, Int.reduceToNat]
        refine ⟨fun vs h' => ∃ (b : Bool) (w : Value), vs = [.bool b, w] ∧ Sat h' (drvS ⟨PB, NB, TB, CB⟩ M Ts calls.length s2 * FR), ?_, ?_⟩
        · refine ifB_mk (fun _ => ⟨true, _, rfl, H3⟩) (fun _ => ?_)
          obtain ⟨sc4, _, _⟩ := scr H3
          try simp only [nilC, bsx, Nat.reduceAdd, Int.reduceLE, Int.reduceLT, Int.reduceToNat]
          refine ldR sc4 rfl (ldR sc4 rfl (ldR sc4 rfl (ldR sc4 rfl (ldR sc4 rfl (ldR sc4 rfl (ldR sc4 rfl ?_))))))
          refine callV_fn (drvS_room (c := c) G H3 hI3 fun h165 b2 H4 => ?_)
          try simp only [nilC, bsx, Nat.reduceAdd, Int.reduceLE, Int.reduceLT, Int.reduceToNat]
          exact ⟨_, _, rfl, H4⟩
        rintro v167 v168 g169 h170 ⟨b2, w2, e, H4⟩
        cases e
        refine ⟨fun vs h' => ∃ i : Nat, vs = [.int .i64 i] ∧ i ≤ calls.length ∧ Sat h' (drvS ⟨PB, NB, TB, CB⟩ M Ts calls.length s2 * FR), fun vs _ => match vs with | [.int _ i] => ((calls.length : Int) - i).toNat | _ => 0, ⟨0, rfl, Nat.zero_le _, H4⟩, ?_⟩
        rintro v173 g174 h175 ⟨i, e, hi, H5⟩
        cases e
        try simp only [nilC, bsx, Nat.reduceAdd, Int.reduceLE, Int.reduceLT, Int.reduceToNat]
        refine ifB_dec (fun c3 => ?_) (fun c3 => ?_)
        · have hi2 : i < calls.length := by omega
          refine ⟨fun _ h' => Sat h' (drvS ⟨PB, NB, TB, CB⟩ M Ts calls.length s2 * FR), ?_, ?_⟩
          · refine ⟨by omega, by omega, ?_⟩
            obtain ⟨b3, hb3⟩ := drvS_tg H5 hi2
            refine ldH_mk hb3 ?_
            try simp only [nilC, bsx, Nat.reduceAdd, Int.reduceLE, Int.reduceLT, Int.reduceToNat]
            refine ifB_mk (fun _ => ?_) (fun _ => ?_)
            · refine ⟨by omega, by omega, ?_⟩
              exact drvS_tgst H5 hi2 fun h6 H6 => H6
            · refine ⟨by omega, by omega, ?_⟩
              exact drvS_tgst H5 hi2 fun h6 H6 => H6
          · rintro g188 h189 H6
            rw [s64_nat1 i (by omega)]
            refine ⟨⟨i + 1, rfl, hi2, H6⟩, ?_⟩
            show ((calls.length : Int) - ((i + 1 : Nat) : Int)).toNat < ((calls.length : Int) - (i : Int)).toNat
            omega
        · refine ⟨fun vs h' => (∃ b, vs = [.bool b]) ∧ Sat h' (drvS ⟨PB, NB, TB, CB⟩ M Ts calls.length s2 * FR), ?_, ?_⟩
          · obtain ⟨ea, ec, o, r, bz, OP⟩ := drvS_play H5
            refine ldR OP rfl ?_
            try simp only [nilC, bsx, Nat.reduceAdd, Int.reduceLE, Int.reduceLT, Int.reduceToNat]
            refine ifB_mk (fun _ => ?_) (fun _ => ?_)
            · exact drvS_odd H5 fun h6 H6 => ⟨⟨_, rfl⟩, H6⟩
            · refine callV_fn (drvS_fault H5 fun h6 H6 => ?_)
              try simp only [nilC, bsx, Nat.reduceAdd, Int.reduceLE, Int.reduceLT, Int.reduceToNat]
              exact drvS_odd H6 fun h7 H7 => ⟨⟨_, rfl⟩, H7⟩
          rintro v199 g200 h201 ⟨⟨b4, e⟩, H6⟩
          cases e
          refine ifB_mk (fun c4 => ?_) (fun c4 => ?_)
          · have hz0 : ¬ z.t.fr = [] := by
              intro hh; rw [hh] at c4; cases c4
            rw [if_neg hz0, ← hs2]
            exact ⟨⟨_, _, _, _, _, rfl⟩, ⟨hI3, hth4, by rw [hs2]; exact hn1, by omega⟩, H6⟩
          · have hz0 : z.t.fr = [] := by
              cases hzf : z.t.fr with
              | nil => rfl
              | cons a l => rw [hzf] at c4; cases c4
            rw [if_pos hz0]
            refine callV_fn (drvS_answer H6 hTk (by omega) fun h203 H7 => ?_)
            rw [hthr2]
            try simp only [nilC, bsx, Nat.reduceAdd, Int.reduceLE, Int.reduceLT, Int.reduceToNat]
            refine sizeH_mk rfl (elemH_mk rfl (elemH_mk rfl (elemH_mk rfl ?_)))
            generalize ansOf z.t = an
            have HL := H7.push (.cells #[.int .i64 0, .int .u32 0, .int .u32 0] 49)
            generalize h203.push (.cells #[.int .i64 0, .int .u32 0, .int .u32 0] 49) = h204 at *
            generalize h203.size = LB at *
            refine st3 (stN_full (vs := clc an) HL.at rfl (by simp [clc, oneC]) fun h205 w => ?_)
            have HL2 := HL.wr w.new w.old
            clear HL w
            rw [star_left] at HL2
            obtain ⟨_, _, _, _, bz, OP⟩ := drvS_play HL2
            refine ldR OP rfl ?_
            try simp only [nilC, bsx, Nat.reduceAdd, Int.reduceLE, Int.reduceLT, Int.reduceToNat]
            refine drvS_busy HL2 fun h206 HL3 => ?_
            refine ⟨fun vs h' => (∃ b, vs = [.bool b]) ∧ Sat h' (drvS ⟨PB, NB, TB, CB⟩ M Ts calls.length s2 * (pt LB (.cells (clc an).toArray 49) * FR)), ?_, ?_⟩
            · obtain ⟨_, _, o, _, _, OP⟩ := drvS_play HL3
              refine ldR OP rfl ?_
              try simp only [nilC, bsx, Nat.reduceAdd, Int.reduceLE, Int.reduceLT, Int.reduceToNat]
              refine ifB_mk (fun _ => ?_) (fun _ => ?_)
              · exact drvS_odd HL3 fun h7 H7 => ⟨⟨_, rfl⟩, H7⟩
              · refine ⟨by omega, by omega, ?_⟩
                obtain ⟨cu, e1, e2, e3⟩ := drvS_cu HL3 hk2
                refine ldH_mk e1 (ldH_mk e2 (ldH_mk e3 ?_))
                have OL := HL3.at2
                refine ldR OL rfl (ldR OL rfl (ldR OL rfl ?_))
                refine callV_fn (fitsCl_call (c := cu) (a := an) fun h7 o7 => ?_)
                try simp only [nilC, bsx, Nat.reduceAdd, Int.reduceLE, Int.reduceLT, Int.reduceToNat]
                exact drvS_odd (HL3.old o7) fun h8 H8 => ⟨⟨_, rfl⟩, H8⟩
            rintro v229 g230 h231 ⟨⟨b6, e⟩, HL4⟩
            cases e
            refine ⟨fun vs h' => (∃ w1 w2, vs = [w1, w2]) ∧ Sat h' (drvS ⟨PB, NB, TB, CB⟩ M Ts calls.length s2 * (pt LB (.cells (clc an).toArray 49) * FR)), ?_, ?_⟩
            · obtain ⟨_, _, _, r, _, OP⟩ := drvS_play HL4
              refine ldR OP rfl ?_
              try simp only [nilC, bsx, Nat.reduceAdd, Int.reduceLE, Int.reduceLT, Int.reduceToNat]
              refine ifB_mk (fun _ => ?_) (fun _ => ?_)
              · exact drvS_roomy HL4 fun h7 H7 => ⟨⟨_, _, rfl⟩, H7⟩
              · refine ldR HL4.at2 rfl ?_
                try simp only [nilC, bsx, Nat.reduceAdd, Int.reduceLE, Int.reduceLT, Int.reduceToNat]
                refine ifB_mk (fun _ => ?_) (fun _ => ?_)
                · refine ⟨by omega, by omega, ?_⟩
                  obtain ⟨b7, e7⟩ := drvS_tg HL4 hk2
                  refine ldH_mk e7 ?_
                  try simp only [nilC, bsx, Nat.reduceAdd, Int.reduceLE, Int.reduceLT, Int.reduceToNat]
                  exact drvS_roomy HL4 fun h7 H7 => ⟨⟨_, _, rfl⟩, H7⟩
                · exact drvS_roomy HL4 fun h7 H7 => ⟨⟨_, _, rfl⟩, H7⟩
            rintro v243 v244 g245 h246 ⟨⟨w7, w8, e⟩, HL5⟩
            cases e
            obtain ⟨_, _, _, _, _, OP5⟩ := drvS_play HL5
            refine ldR OP5 rfl ?_
            have OL5 := HL5.at2
            refine ldR OL5 rfl (ldR OL5 rfl (ldR OL5 rfl ?_))
            refine drvS_ev HL5 (e := ⟨kk, true, cl0, an⟩) (by omega) (cellAt_of OP5 0) fun h8 HL6 => ?_
            refine ⟨⟨_, _, _, _, _, rfl⟩, ⟨?_, ?_, ?_, ?_⟩, ?_⟩
            · rw [hs2] at hI3; exact hI3
            · rw [hs2] at hth4; exact hth4
            · exact hn1
            · have h9 : s1.ev.length ≤ 2 * j + 1 := hv1
              show (s1.ev ++ [_]).length ≤ _
              rw [List.length_append]
              simp only [List.length_singleton]
              omega
            · rw [hs2] at HL6
              exact HL6.drop2
    rintro v260 v261 v262 v263 v264 g265 h266 ⟨⟨w1, w2, w3, w4, w5, e⟩, D2, H2⟩
    cases e
    rw [show s64 ((j : Int) + 1) = ((j + 1 : Nat) : Int) from by unfold s64; omega]
    refine ⟨⟨j + 1, _, _, _, _, _, rfl, hjlt, by rw [hnext]; exact D2, by rw [hnext]; exact H2⟩, ?_⟩
    show ((picks.length : Int) - ((j + 1 : Nat) : Int)).toNat < ((picks.length : Int) - (j : Int)).toNat
    omega
  · have ej : picks.take j = picks := List.take_of_length_le (by omega)
    rw [ej] at hsj
    rw [hsj] at k
    rw [← hFR] at HJ
    obtain ⟨ea, ec, o, r, bz, tg, hl, HQ⟩ := drvS_iff.1 HJ
    dsimp only at HQ
    have O := HQ.at
    have HP : Sat h28 (pt PB (.cells (playC ea sj.ev.length ec o r bz).toArray 56) * (pt NB (.cells (sj.nx.map iv).toArray 3) * (pt TB (.cells (tg.map bv).toArray 4) * (pt CB (.cells (sj.cu.flatMap clc).toArray 53) * (pt SB (.cells (scrC c ca calls.length cc pa picks.length pc da dl dc).toArray 28) * (pt QB (.cells #[.func (.func f) #[] #[], .int .i64 ins] 37) * (pt PR (.cells (playC none 0 0 false false 0).toArray 56) * (ownS 59 8 ea sj.ev.length ec (sj.ev.flatMap evc) * (machS M Ts sj.m * R))))))))) := Sat.ac HQ (by ac_rfl)
    have HR := HP.drop.drop.drop.drop.drop.drop
    refine ldR O rfl (ldR O rfl (ldR O rfl (ldR O rfl ?_)))
    refine HR.st (i := 0) rfl trivial fun h1 HR1 => ?_
    refine HR1.st (i := 1) rfl trivial fun h2 HR2 => ?_
    refine HR2.st (i := 2) rfl trivial fun h3 HR3 => ?_
    refine HR3.st (i := 3) rfl trivial fun h4 HR4 => ?_
    refine HR4.ld rfl (HR4.ld rfl (HR4.ld rfl (HR4.ld rfl ?_)))
    exact k h4 ea ec o r bz HR4.drop
end
end
section
open Mod
theorem st10 {h : Heap} {b : Nat} {v0 v1 v2 v3 v4 v5 v6 v7 v8 v9 : Value} {K : Heap → Prop} (H : stN h ⟨b, 0, none⟩ 0 [v0, v1, v2, v3, v4, v5, v6, v7, v8, v9] K) :
    stH h ⟨b, 0, none⟩ v0 fun h => stH h ⟨b, 1, none⟩ v1 fun h => stH h ⟨b, 2, none⟩ v2 fun h => stH h ⟨b, 3, none⟩ v3 fun h => stH h ⟨b, 4, none⟩ v4 fun h => stH h ⟨b, 5, none⟩ v5 fun h => stH h ⟨b, 6, none⟩ v6 fun h => stH h ⟨b, 7, none⟩ v7 fun h => stH h ⟨b, 8, none⟩ v8 fun h => stH h ⟨b, 9, none⟩ v9 K := H
def u8v (n : Int) : Value := .int .u8 n
structure ScrI (h : Heap) (ca : Option Addr) (cl : Nat) (pa : Option Addr) (pl : Nat) (da : Option Addr) (dl : Nat) (calls : List (List Cl)) (picks draws : List Int) : Prop where
  f : ScrF h ca cl pa pl calls picks
  ds : dl = draws.length
  dr : Sees h da (draws.map u8v)
structure ScrR (calls : List (List Cl)) (picks draws : List Int) : Prop where
  cl : ∀ l ∈ calls, ∀ c ∈ l, V c.key ∧ V c.val
  dr : ∀ n ∈ draws, 0 ≤ n ∧ n < 256
def opL (n : Int) : Int := Int.tmod (s64 (Int.tmod n 3 + 3)) 3
def clL (c : Cl) : Cl := if opL c.op = 0 then ⟨0, c.key, c.val⟩ else ⟨opL c.op, 0, 0⟩
def rowL (n : Nat) (l : List Cl) : List Cl := (l.take n).map clL
def callsL (th n : Nat) (calls : List (List Cl)) : List (List Cl) := (List.range th).map fun i => rowL n (calls.getD i [])
def pickL (th : Int) (k : Int) : Int := Int.tmod (s64 (Int.tmod k th + th)) th
def picksL (th : Int) (n : Nat) (picks : List Int) : List Int := (picks.take n).map (pickL th)
theorem opL_rng (n : Int) : 0 ≤ opL n ∧ opL n ≤ 2 := by
  have h1 : Int.tmod n 3 < 3 := Int.tmod_lt_of_pos n (by decide)
  have h2 : -3 < Int.tmod n 3 := by
    have := Int.lt_tmod_of_pos n (b := 3) (by decide)
    omega
  have h3 : s64 (Int.tmod n 3 + 3) = Int.tmod n 3 + 3 := by unfold s64; omega
  unfold opL
  rw [h3]
  generalize Int.tmod n 3 = m at *
  rw [Int.tmod_eq_emod_of_nonneg (by omega)]
  omega
theorem pickL_rng {th : Int} (ht : 1 ≤ th ∧ th ≤ 6) (n : Int) : 0 ≤ pickL th n ∧ pickL th n < th := by
  have h1 : Int.tmod n th < th := Int.tmod_lt_of_pos n (by omega)
  have h2 : -th < Int.tmod n th := by
    have := Int.lt_tmod_of_pos n (b := th) (by omega)
    omega
  have h3 : s64 (Int.tmod n th + th) = Int.tmod n th + th := by unfold s64; omega
  unfold pickL
  rw [h3]
  generalize Int.tmod n th = m at *
  rw [Int.tmod_eq_emod_of_nonneg (by omega)]
  exact ⟨Int.emod_nonneg _ (by omega), Int.emod_lt_of_pos _ (by omega)⟩
theorem clL_ok {c : Cl} (h : V c.key ∧ V c.val) : (0 ≤ (clL c).op ∧ (clL c).op ≤ 2) ∧ V (clL c).key ∧ V (clL c).val := by
  have := opL_rng c.op
  unfold clL
  split
  · exact ⟨⟨by show (0 : Int) ≤ 0; omega, by show (0 : Int) ≤ 2; omega⟩, h⟩
  · exact ⟨this, ⟨by show (0 : Int) ≤ 0; omega, by show (0 : Int) < _; omega⟩, ⟨by show (0 : Int) ≤ 0; omega, by show (0 : Int) < _; omega⟩⟩
theorem callsL_len (th n : Nat) (calls : List (List Cl)) : (callsL th n calls).length = th := by unfold callsL; simp
theorem callsL_ok {th n : Nat} {calls : List (List Cl)} {picks draws : List Int} (R : ScrR calls picks draws) (hn : n ≤ 1000) : ∀ l ∈ callsL th n calls, l.length ≤ 1000 ∧ ∀ c ∈ l, (0 ≤ c.op ∧ c.op ≤ 2) ∧ V c.key ∧ V c.val := by
  intro l hl
  unfold callsL at hl
  obtain ⟨i, _, rfl⟩ := List.mem_map.1 hl
  unfold rowL
  refine ⟨by rw [List.length_map, List.length_take]; omega, fun c hc => ?_⟩
  obtain ⟨c0, hc0, rfl⟩ := List.mem_map.1 hc
  have hm := List.mem_of_mem_take hc0
  have : calls.getD i [] ∈ calls ∨ calls.getD i [] = [] := by
    rw [List.getD_eq_getElem?_getD]
    cases e : calls[i]? with
    | none => right; rfl
    | some l => left; exact List.mem_of_getElem? e
  rcases this with h | h
  · exact clL_ok (R.cl _ h _ hm)
  · rw [h] at hm; cases hm
theorem scrL_ok {th : Int} {n m : Nat} {calls : List (List Cl)} {picks draws : List Int} (ht : 1 ≤ th ∧ th ≤ 6) (R : ScrR calls picks draws) (hn : n ≤ 1000) (hm : m ≤ 60000) : ScrOk (callsL th.toNat n calls) (picksL th m picks) := by
  refine ⟨by rw [callsL_len]; omega, callsL_ok R hn, ?_, ?_⟩
  · unfold picksL; rw [List.length_map, List.length_take]; omega
  · intro k hk
    unfold picksL at hk
    obtain ⟨k0, _, rfl⟩ := List.mem_map.1 hk
    have := pickL_rng ht k0
    rw [callsL_len]
    omega
def rowV (p : (Option Addr × Nat) × List Cl) : List Value := [.slice p.1.1 p.2.length p.1.2]
def rowsS : List (Option Addr × Nat) → List (List Cl) → Hp
  | p :: ps, l :: ls => ownS 53 3 p.1 l.length p.2 (l.flatMap clc) * rowsS ps ls
  | _, _ => emp
theorem rowsS_snoc (p : Option Addr × Nat) (l : List Cl) : ∀ (ps : List (Option Addr × Nat)) (ls : List (List Cl)), ps.length = ls.length → rowsS (ps ++ [p]) (ls ++ [l]) = rowsS ps ls * ownS 53 3 p.1 l.length p.2 (l.flatMap clc)
  | [], [], _ => by
    show _ * emp = emp * _
    rw [star_comm]
  | [], _ :: _, h => by simp at h
  | _ :: _, [], h => by simp at h
  | a :: ps, b :: ls, h => by
    show _ * rowsS (ps ++ [p]) (ls ++ [l]) = (_ * rowsS ps ls) * _
    rw [rowsS_snoc p l ps ls (by simpa using h), star_assoc]
theorem rowsS_sees {h : Heap} : ∀ {ps : List (Option Addr × Nat)} {ls : List (List Cl)} {R : Hp}, ps.length = ls.length → Sat h (rowsS ps ls * R) → ∀ i, i < ls.length → ∃ p, ps[i]? = some p ∧ Sees h p.1 ((ls.getD i []).flatMap clc)
  | [], [], _, _, _, i, hi => by simp at hi
  | [], _ :: _, _, hl, _, _, _ => by simp at hl
  | _ :: _, [], _, hl, _, _, _ => by simp at hl
  | p :: ps, l :: ls, R, hl, H, i, hi => by
    have H : Sat h ((ownS 53 3 p.1 l.length p.2 (l.flatMap clc) * rowsS ps ls) * R) := H
    rw [star_assoc] at H
    cases i with
    | zero => exact ⟨p, rfl, H.own.sees⟩
    | succ i =>
      have := rowsS_sees (by simpa using hl) H.drop i (by simpa using hi)
      simpa using this
def scrS (ca : Option Addr) (cc : Nat) (pa : Option Addr) (pc : Nat) (da : Option Addr) (dc : Nat) (ps : List (Option Addr × Nat)) (calls : List (List Cl)) (picks draws : List Int) : Hp :=
  pr (ps.length = calls.length) (ownS 66 1 ca calls.length cc ((ps.zip calls).flatMap rowV) * (rowsS ps calls * (ownS 3 1 pa picks.length pc (picks.map iv) * ownS 5 1 da draws.length dc (draws.map u8v))))
theorem scrS_iff {h : Heap} {ca pa da : Option Addr} {cc pc dc : Nat} {ps : List (Option Addr × Nat)} {calls : List (List Cl)} {picks draws : List Int} {R : Hp} : Sat h (scrS ca cc pa pc da dc ps calls picks draws * R) ↔ ps.length = calls.length ∧
    Sat h (ownS 66 1 ca calls.length cc ((ps.zip calls).flatMap rowV) * (rowsS ps calls * (ownS 3 1 pa picks.length pc (picks.map iv) * (ownS 5 1 da draws.length dc (draws.map u8v) * R)))) := by
  unfold scrS
  simp only [Sat.pr, star_assoc]
theorem scrS_I {h : Heap} {ca pa da : Option Addr} {cc pc dc : Nat} {ps : List (Option Addr × Nat)} {calls : List (List Cl)} {picks draws : List Int} {R : Hp} (H : Sat h (scrS ca cc pa pc da dc ps calls picks draws * R)) : ScrI h ca calls.length pa picks.length da draws.length calls picks draws := by
  obtain ⟨hl, H⟩ := scrS_iff.1 H
  refine ⟨⟨rfl, fun i hi => ?_, rfl, H.drop.drop.own.sees⟩, rfl, H.drop.drop.drop.own.sees⟩
  obtain ⟨p, hp, hs⟩ := rowsS_sees hl H.drop i hi
  refine ⟨p.1, p.2, ?_, hs⟩
  refine H.own.sees i _ ?_
  have hz : i < (ps.zip calls).length := by rw [List.length_zip]; omega
  have := flat_get (f := rowV) (n := 1) (fun _ => rfl) hz (j := 0) (by decide)
  rw [Nat.mul_one, Nat.add_zero] at this
  rw [this]
  have hi2 : i < ps.length := by omega
  have e1 : ps[i] = p := by
    rw [List.getElem?_eq_getElem hi2] at hp
    exact Option.some.inj hp
  have e2 : calls.getD i [] = calls[i] := by rw [List.getD_eq_getElem?_getD, List.getElem?_eq_getElem hi]; rfl
  rw [e2]
  simp [rowV, e1]
theorem und_cll : und Tryz.prog 24 = .slice 66 := by kernel_rfl
theorem there_cll : there Tryz.prog 66 = true := by kernel_rfl
theorem zer_cll : zer Tryz.prog 66 = some (.slice none 0 0) := by kernel_rfl
theorem siz_cll : siz Tryz.prog 66 = 1 := by kernel_rfl
theorem byt_cll : byt Tryz.prog 66 = 24 := by kernel_rfl
theorem und_cl : und Tryz.prog 66 = .slice 53 := by kernel_rfl
theorem there_cl : there Tryz.prog 53 = true := by kernel_rfl
theorem zer_cl : zer Tryz.prog 53 = some (.agg #[.int .i64 0, .int .u32 0, .int .u32 0]) := by kernel_rfl
theorem siz_cl : siz Tryz.prog 53 = 3 := by kernel_rfl
theorem byt_cl : byt Tryz.prog 53 = 16 := by kernel_rfl
theorem und_il : und Tryz.prog 25 = .slice 3 := by kernel_rfl
theorem there_il : there Tryz.prog 3 = true := by kernel_rfl
theorem zer_il : zer Tryz.prog 3 = some (.int .i64 0) := by kernel_rfl
theorem siz_il : siz Tryz.prog 3 = 1 := by kernel_rfl
theorem byt_il : byt Tryz.prog 3 = 8 := by kernel_rfl
theorem sees_new {h : Heap} {row : List Value} {t : TypeId} : Sees (h.push (.cells row.toArray t)) (some ⟨h.size, 0, none⟩) row := by
  intro i v hi
  refine ⟨_, rfl, ?_⟩
  rw [add_lit, Nat.zero_add]
  exact cellR (t := t) (row := row) (by simp) hi
section
variable {K : Value → Heap → Prop} {h : Heap} {R : Hp}
theorem app_cl {a : Option Addr} {l c : Nat} {xs : List Cl} {x : Cl} {X : Hp} {F : Value → Heap → Prop} (H : Sat h (ownS 53 3 a l c (xs.flatMap clc) * X)) (hl : l ≤ 60000)
    (k : ∀ a' c' h', Sat h' (ownS 53 3 a' (l + 1) c' ((xs ++ [x]).flatMap clc) * X) → F (.slice a' (l + 1) c') h') :
    appH Tryz.prog #[66, 66] 66 #[.slice a l c, .slice (some ⟨h.size, 0, none⟩) 1 1] (h.push (.cells #[.int .i64 x.op, .int .u32 x.key, .int .u32 x.val] 53)) F := by
  have H1 := H.push (.cells (clc x).toArray 53)
  have hs : Sees (h.push (.cells (clc x).toArray 53)) (some ⟨h.size, 0, none⟩) (clc x) := sees_new
  have e : (.cells #[.int .i64 x.op, .int .u32 x.key, .int .u32 x.val] 53 : Obj) = .cells (clc x).toArray 53 := rfl
  rw [e]
  have H2 : Sat (h.push (.cells (clc x).toArray 53)) (ownS 53 (siz Tryz.prog 53) a l c (xs.flatMap clc) * X) := by
    rw [siz_cl]; exact H1.drop
  refine H2.app und_cl there_cl zer_cl (by rw [siz_cl]; rfl) hs (n := 1) (by rw [siz_cl]; rfl) (by simp [clc, oneC]) (by rw [byt_cl]; omega) (by rw [byt_cl]; omega) fun a' c' h' H3 => k a' c' h' ?_
  rw [siz_cl] at H3
  rw [List.flatMap_append, List.flatMap_singleton]
  exact H3
theorem app_il {a : Option Addr} {l c : Nat} {xs : List Int} {x : Int} {X : Hp} {F : Value → Heap → Prop} (H : Sat h (ownS 3 1 a l c (xs.map iv) * X)) (hl : l ≤ 60000)
    (k : ∀ a' c' h', Sat h' (ownS 3 1 a' (l + 1) c' ((xs ++ [x]).map iv) * X) → F (.slice a' (l + 1) c') h') :
    appH Tryz.prog #[25, 25] 25 #[.slice a l c, .slice (some ⟨h.size, 0, none⟩) 1 1] (h.push (.cells #[.int .i64 x] 3)) F := by
  have H1 := H.push (.cells [iv x].toArray 3)
  have hs : Sees (h.push (.cells [iv x].toArray 3)) (some ⟨h.size, 0, none⟩) [iv x] := sees_new
  have e : (.cells #[.int .i64 x] 3 : Obj) = .cells [iv x].toArray 3 := rfl
  rw [e]
  have H2 : Sat (h.push (.cells [iv x].toArray 3)) (ownS 3 (siz Tryz.prog 3) a l c (xs.map iv) * X) := by
    rw [siz_il]; exact H1.drop
  refine H2.app und_il there_il zer_il (by rw [siz_il]; rfl) hs (n := 1) (by rw [siz_il]; rfl) (by simp [oneC]) (by rw [byt_il]; omega) (by rw [byt_il]; omega) fun a' c' h' H3 => k a' c' h' ?_
  rw [siz_il] at H3
  rw [List.map_append]
  exact H3
theorem app_u8 {a : Option Addr} {l c : Nat} {xs : List Int} {x : Int} {X : Hp} {F : Value → Heap → Prop} (H : Sat h (ownS 5 1 a l c (xs.map u8v) * X)) (hl : l ≤ 60000)
    (k : ∀ a' c' h', Sat h' (ownS 5 1 a' (l + 1) c' ((xs ++ [x]).map u8v) * X) → F (.slice a' (l + 1) c') h') :
    appH Tryz.prog #[26, 26] 26 #[.slice a l c, .slice (some ⟨h.size, 0, none⟩) 1 1] (h.push (.cells #[.int .u8 x] 5)) F := by
  have H1 := H.push (.cells [u8v x].toArray 5)
  have hs : Sees (h.push (.cells [u8v x].toArray 5)) (some ⟨h.size, 0, none⟩) [u8v x] := sees_new
  have e : (.cells #[.int .u8 x] 5 : Obj) = .cells [u8v x].toArray 5 := rfl
  rw [e]
  have H2 : Sat (h.push (.cells [u8v x].toArray 5)) (ownS 5 (siz Tryz.prog 5) a l c (xs.map u8v) * X) := by
    rw [siz_u8]; exact H1.drop
  refine H2.app und_u8 there_u8 zer_u8 (by rw [siz_u8]; rfl) hs (n := 1) (by rw [siz_u8]; rfl) (by simp [u8v, oneC]) (by rw [byt_u8]; omega) (by rw [byt_u8]; omega) fun a' c' h' H3 => k a' c' h' ?_
  rw [siz_u8] at H3
  rw [List.map_append]
  exact H3
theorem app_cll {a : Option Addr} {l c : Nat} {ps : List (Option Addr × Nat)} {xs : List (List Cl)} {p : Option Addr × Nat} {x : List Cl} {n : Nat} {X : Hp} {F : Value → Heap → Prop} (H : Sat h (ownS 66 1 a l c ((ps.zip xs).flatMap rowV) * X)) (hz : ps.length = xs.length) (hn : n = x.length) (hl : l ≤ 60000)
    (k : ∀ a' c' h', Sat h' (ownS 66 1 a' (l + 1) c' (((ps ++ [p]).zip (xs ++ [x])).flatMap rowV) * X) → F (.slice a' (l + 1) c') h') :
    appH Tryz.prog #[24, 24] 24 #[.slice a l c, .slice (some ⟨h.size, 0, none⟩) 1 1] (h.push (.cells #[.slice p.1 n p.2] 66)) F := by
  subst hn
  have H1 := H.push (.cells (rowV (p, x)).toArray 66)
  have hs : Sees (h.push (.cells (rowV (p, x)).toArray 66)) (some ⟨h.size, 0, none⟩) (rowV (p, x)) := sees_new
  have e : (.cells #[.slice p.1 x.length p.2] 66 : Obj) = .cells (rowV (p, x)).toArray 66 := rfl
  rw [e]
  have H2 : Sat (h.push (.cells (rowV (p, x)).toArray 66)) (ownS 66 (siz Tryz.prog 66) a l c ((ps.zip xs).flatMap rowV) * X) := by
    rw [siz_cll]; exact H1.drop
  refine H2.app und_cll there_cll zer_cll (by rw [siz_cll]; rfl) hs (n := 1) (by rw [siz_cll]; rfl) (by simp [rowV, oneC]) (by rw [byt_cll]; omega) (by rw [byt_cll]; omega) fun a' c' h' H3 => k a' c' h' ?_
  rw [siz_cll] at H3
  rw [List.zip_append hz, List.flatMap_append]
  exact H3
end
end
section
open Go.ChangeShapes Go.WideShapes Go.ChangeAt Go.RowKit
theorem V_wf {n : Int} (h : (Lit.int .u32 n).wf = true) : V n := by
  unfold Lit.wf at h
  rw [Bool.and_eq_true, decide_eq_true_eq, decide_eq_true_eq] at h
  have e1 : IntKind.min .u32 = 0 := rfl
  have e2 : IntKind.max .u32 = 4294967295 := rfl
  rw [e1, e2] at h
  exact ⟨h.1, by omega⟩
theorem u8_wf {n : Int} (h : (Lit.int .u8 n).wf = true) : 0 ≤ n ∧ n < 256 := by
  unfold Lit.wf at h
  rw [Bool.and_eq_true, decide_eq_true_eq, decide_eq_true_eq] at h
  have e1 : IntKind.min .u8 = 0 := rfl
  have e2 : IntKind.max .u8 = 255 := rfl
  rw [e1, e2] at h
  exact ⟨h.1, by omega⟩
theorem sx_subR {α : Type} {P : α → Prop} {f : α → List Value} {h : Heap} {a : Option Addr} {l c : Nat} {es : List {x : α // P x}} (H : SX (fun x : {x : α // P x} => f x.1) h a l c es) : ∃ xs : List α, (∀ x ∈ xs, P x) ∧ SX f h a l c xs := by
  refine ⟨es.map (·.1), fun x hx => ?_, ⟨?_, by rw [List.length_map]; exact H.len, H.cap⟩⟩
  · obtain ⟨y, _, rfl⟩ := List.mem_map.1 hx; exact y.2
  · have : (es.map (·.1)).flatMap f = es.flatMap fun x : {x : α // P x} => f x.1 := by rw [List.flatMap_map]
    rw [this]; exact H.s
theorem Sees.oldR {h h' : Heap} {a : Option Addr} {vs : List Value} (H : Sees h a vs) (o : Old h.size h h') : Sees h' a vs := fun i v hi => by
  obtain ⟨ad, ea, hc⟩ := H i v hi
  exact ⟨ad, ea, (cellAt_congr (o.2 _ (cellAt_lt hc))).trans hc⟩
theorem ScrI.old {h h' : Heap} {ca : Option Addr} {cl : Nat} {pa : Option Addr} {pl : Nat} {da : Option Addr} {dl : Nat} {calls : List (List Cl)} {picks draws : List Int} (S : ScrI h ca cl pa pl da dl calls picks draws) (o : Old h.size h h') : ScrI h' ca cl pa pl da dl calls picks draws := by
  refine ⟨⟨S.f.cs, fun i hi => ?_, S.f.ps, S.f.pk.oldR o⟩, S.ds, S.dr.oldR o⟩
  obtain ⟨a, c, ⟨ad, e, hc⟩, hs⟩ := S.f.row i hi
  exact ⟨a, c, ⟨ad, e, (cellAt_congr (o.2 _ (cellAt_lt hc))).trans hc⟩, hs.oldR o⟩
theorem full_old1 {h h0 : Heap} (H : Sat h (fullS h0)) : Old h0.size h0 h := by
  rw [← emp_star (fullS h0), star_comm] at H
  exact H.fullOld
theorem full_old2 {h h0 : Heap} {P : Hp} (H : Sat h (P * fullS h0)) : Old h0.size h0 h := by
  rw [star_comm] at H
  exact H.fullOld
section
variable {H : Type} {enc : TypeId × Value → H} {W : World} {fuel : Nat} {cs : List Value} {x : DataW H × List MemPlace}
theorem cl_cells (h : DataW.trod enc Tryz.prog W 0 (fun _ => true) true fuel 53 cs = some x) : ∃ e : {e : Cl // V e.key ∧ V e.val}, cs = clc e.1 := by
  have hl := trod_lenG Tryz.underlying53 h
  rw [cellsOfG_call] at hl
  obtain ⟨_, _, e0⟩ := trod_fieldG Tryz.underlying53 h 0 _ rfl
  obtain ⟨_, _, e1⟩ := trod_fieldG Tryz.underlying53 h 1 _ rfl
  obtain ⟨_, _, e2⟩ := trod_fieldG Tryz.underlying53 h 2 _ rfl
  obtain ⟨n0, u0, _, _⟩ := DataW.trod_int Tryz.underlying3 e0
  obtain ⟨n1, u1, _, r1⟩ := DataW.trod_int Tryz.underlying47 e1
  obtain ⟨n2, u2, _, r2⟩ := DataW.trod_int Tryz.underlying47 e2
  have q0 : (cs.drop 0).take (Program.cellsOf Tryz.prog 3) = [.int .i64 n0] := u0
  have q1 : (cs.drop 1).take (Program.cellsOf Tryz.prog 47) = [.int .u32 n1] := u1
  have q2 : (cs.drop 2).take (Program.cellsOf Tryz.prog 47) = [.int .u32 n2] := u2
  rw [cellsOfG_int] at q0
  rw [cellsOfG_u32] at q1 q2
  refine ⟨⟨⟨n0, n1, n2⟩, V_wf r1, V_wf r2⟩, ?_⟩
  rcases cs with _ | ⟨c0, cs⟩; · simp at hl
  rcases cs with _ | ⟨c1, cs⟩; · simp at hl
  rcases cs with _ | ⟨c2, cs⟩; · simp at hl
  rcases cs with _ | ⟨c3, cs⟩
  · simp at q0 q1 q2
    rw [q0, q1, q2]; rfl
  · simp at hl
theorem u8_cells (h : DataW.trod enc Tryz.prog W 0 (fun _ => true) true fuel 5 cs = some x) : ∃ e : {e : Int // 0 ≤ e ∧ e < 256}, cs = [u8v e.1] := by
  obtain ⟨n, u, _, r⟩ := DataW.trod_int Tryz.underlying5 h
  exact ⟨⟨n, u8_wf r⟩, u⟩
theorem i64_cells (h : DataW.trod enc Tryz.prog W 0 (fun _ => true) true fuel 3 cs = some x) : ∃ e : Int, cs = [iv e] := by
  obtain ⟨n, u, _, r⟩ := DataW.trod_int Tryz.underlying3 h
  exact ⟨n, u⟩
theorem slice_form {ts t : TypeId} (hu : Program.underlying Tryz.prog ts = some (.slice t)) (h : DataW.trod enc Tryz.prog W 0 (fun _ => true) true fuel ts cs = some x) : ∃ a l c, cs = [.slice a l c] := by
  rcases DataW.trod_slice hu h with ⟨hcs, _⟩ | ⟨y, l1, c1, elems, rest, n, _, hcs, _⟩
  · exact ⟨_, _, _, hcs⟩
  · exact ⟨_, _, _, hcs⟩
theorem cellsOf_cls : Program.cellsOf Tryz.prog 66 = 1 := by kernel_rfl
theorem cellsOf_clls : Program.cellsOf Tryz.prog 24 = 1 := by kernel_rfl
theorem cellsOf_ints : Program.cellsOf Tryz.prog 25 = 1 := by kernel_rfl
theorem cellsOf_u8s : Program.cellsOf Tryz.prog 26 = 1 := by kernel_rfl
theorem cellsOf_cnf : Program.cellsOf Tryz.prog 23 = 7 := by kernel_rfl
theorem cellsOf_scr : Program.cellsOf Tryz.prog 28 = 10 := by kernel_rfl
structure RowR (h : Heap) (a : Option Addr) (l : Nat) (row : List Cl) : Prop where
  len : l = row.length
  s : Sees h a (row.flatMap clc)
  v : ∀ c ∈ row, V c.key ∧ V c.val
theorem row_of {a : Option Addr} {l c : Nat} {d : DataW H} {ps : List MemPlace} (h : DataW.Trod enc Tryz.prog W 0 (fun _ => true) true 66 (.slice a l c) d ps) : ∃ row, RowR W.heap a l row := by
  obtain ⟨es, S⟩ := arg_sx (f := fun e : {e : Cl // V e.key ∧ V e.val} => clc e.1) (n := 3) (fun _ => rfl) (by omega) Tryz.underlying66 (by kernel_rfl) (fun _ _ _ h => cl_cells h) h
  obtain ⟨xs, hx, S⟩ := sx_subR S
  exact ⟨xs, S.len.symm, S.s, hx⟩
theorem rows_of {a : Option Addr} {l c : Nat} {d : DataW H} {ps : List MemPlace} (h : DataW.Trod enc Tryz.prog W 0 (fun _ => true) true 24 (.slice a l c) d ps) :
    ∃ calls : List (List Cl), calls.length = l ∧ ∀ i (hi : i < calls.length), ∃ ai ci, (∃ ad, a = some ad ∧ cellAt W.heap (ad.add i) = some (.slice ai calls[i].length ci)) ∧ RowR W.heap ai calls[i].length calls[i] := by
  obtain ⟨fuel, hf⟩ := h
  rcases DataW.trod_slice Tryz.underlying24 hf with ⟨hcs, _⟩ | ⟨x, l1, c1, elems, rest, n, _, hcs, _, _, hl, hm, hlen, hel, _, _⟩
  · simp [Value.cells] at hcs
    obtain ⟨rfl, rfl, rfl⟩ := hcs
    exact ⟨[], rfl, fun i hi => by simp at hi⟩
  · simp [Value.cells] at hcs
    obtain ⟨rfl, rfl, rfl⟩ := hcs
    have each : ∀ i, i < l → ∃ ai li ci row, cellAt W.heap (x.add i) = some (.slice ai li ci) ∧ RowR W.heap ai li row := by
      intro i hi
      have := hel i hi
      rw [List.getElem?_eq_getElem (by omega), Option.bind_eq_some_iff] at this
      obtain ⟨cs, h1, h2⟩ := this
      obtain ⟨ai, li, ci, rfl⟩ := slice_form Tryz.underlying66 h2
      obtain ⟨row, hr⟩ := row_of ⟨_, h2⟩
      rw [cellsOf_cls, Nat.mul_one] at h1
      obtain ⟨_, _, h4⟩ := World.cells?_some h1
      have h5 := h4 0 (by omega)
      exact ⟨ai, li, ci, row, h5, hr⟩
    have pick : ∀ m, m ≤ l → ∃ calls : List (List Cl), calls.length = m ∧ ∀ i (hi : i < calls.length), ∃ ai ci, cellAt W.heap (x.add i) = some (.slice ai calls[i].length ci) ∧ RowR W.heap ai calls[i].length calls[i] := by
      intro m
      induction m with
      | zero => intro _; exact ⟨[], rfl, fun i hi => by simp at hi⟩
      | succ m ih =>
        intro hm
        obtain ⟨calls, h1, h3⟩ := ih (by omega)
        obtain ⟨ai, li, ci, row, e1, e2⟩ := each m (by omega)
        refine ⟨calls ++ [row], by simp [h1], fun i hi => ?_⟩
        by_cases e : i < calls.length
        · obtain ⟨ai', ci', q2, q3⟩ := h3 i e
          refine ⟨ai', ci', ?_, ?_⟩
          · rw [List.getElem_append_left e]; exact q2
          · rw [List.getElem_append_left e]; exact q3
        · have : i = m := by simp at hi; omega
          subst this
          have e3 : (calls ++ [row])[i] = row := by
            rw [List.getElem_append_right (by omega)]
            simp [h1]
          have e4 := e2.len
          subst e4
          refine ⟨ai, ci, ?_, ?_⟩
          · rw [e3]; exact e1
          · rw [e3]; exact e2
    obtain ⟨calls, h1, h3⟩ := pick l (Nat.le_refl _)
    refine ⟨calls, h1, fun i hi => ?_⟩
    obtain ⟨ai, ci, q2, q3⟩ := h3 i hi
    exact ⟨ai, ci, ⟨x, rfl, q2⟩, q3⟩
theorem flat1 {f : Int → Value} (l : List Int) : (l.flatMap fun n => [f n]) = l.map f := by
  induction l with
  | nil => rfl
  | cons a l ih => simp [ih]
theorem conf_cells (h : DataW.trod enc Tryz.prog W 0 (fun _ => true) true fuel 23 cs = some x) : ∃ c : Mod.Cf, cs = [.int .i64 c.algo, .int .i64 c.threads, .int .i64 c.nodes, .int .i64 c.level, .int .i64 c.batch, .int .i64 c.probes, .int .i64 c.scan] := by
  have hl := trod_lenG Tryz.underlying23 h
  rw [cellsOf_cnf] at hl
  obtain ⟨_, _, e0⟩ := trod_fieldG Tryz.underlying23 h 0 _ rfl
  obtain ⟨n0, u0⟩ := i64_cells e0
  have q0 : (cs.drop 0).take (Program.cellsOf Tryz.prog 3) = [.int .i64 n0] := u0
  rw [cellsOfG_int] at q0
  obtain ⟨_, _, e1⟩ := trod_fieldG Tryz.underlying23 h 1 _ rfl
  obtain ⟨n1, u1⟩ := i64_cells e1
  have q1 : (cs.drop 1).take (Program.cellsOf Tryz.prog 3) = [.int .i64 n1] := u1
  rw [cellsOfG_int] at q1
  obtain ⟨_, _, e2⟩ := trod_fieldG Tryz.underlying23 h 2 _ rfl
  obtain ⟨n2, u2⟩ := i64_cells e2
  have q2 : (cs.drop 2).take (Program.cellsOf Tryz.prog 3) = [.int .i64 n2] := u2
  rw [cellsOfG_int] at q2
  obtain ⟨_, _, e3⟩ := trod_fieldG Tryz.underlying23 h 3 _ rfl
  obtain ⟨n3, u3⟩ := i64_cells e3
  have q3 : (cs.drop 3).take (Program.cellsOf Tryz.prog 3) = [.int .i64 n3] := u3
  rw [cellsOfG_int] at q3
  obtain ⟨_, _, e4⟩ := trod_fieldG Tryz.underlying23 h 4 _ rfl
  obtain ⟨n4, u4⟩ := i64_cells e4
  have q4 : (cs.drop 4).take (Program.cellsOf Tryz.prog 3) = [.int .i64 n4] := u4
  rw [cellsOfG_int] at q4
  obtain ⟨_, _, e5⟩ := trod_fieldG Tryz.underlying23 h 5 _ rfl
  obtain ⟨n5, u5⟩ := i64_cells e5
  have q5 : (cs.drop 5).take (Program.cellsOf Tryz.prog 3) = [.int .i64 n5] := u5
  rw [cellsOfG_int] at q5
  obtain ⟨_, _, e6⟩ := trod_fieldG Tryz.underlying23 h 6 _ rfl
  obtain ⟨n6, u6⟩ := i64_cells e6
  have q6 : (cs.drop 6).take (Program.cellsOf Tryz.prog 3) = [.int .i64 n6] := u6
  rw [cellsOfG_int] at q6
  refine ⟨⟨n0, n1, n2, n3, n4, n5, n6⟩, ?_⟩
  rcases cs with _ | ⟨c0, cs⟩; · simp at hl
  rcases cs with _ | ⟨c1, cs⟩; · simp at hl
  rcases cs with _ | ⟨c2, cs⟩; · simp at hl
  rcases cs with _ | ⟨c3, cs⟩; · simp at hl
  rcases cs with _ | ⟨c4, cs⟩; · simp at hl
  rcases cs with _ | ⟨c5, cs⟩; · simp at hl
  rcases cs with _ | ⟨c6, cs⟩; · simp at hl
  rcases cs with _ | ⟨c7, cs⟩
  · simp at q0 q1 q2 q3 q4 q5 q6
    rw [q0, q1, q2, q3, q4, q5, q6]
  · simp at hl
end
section
variable {H : Type} {enc : TypeId × Value → H} {W : World} {v : Value} {d : DataW H} {ps : List MemPlace} {r : Reach} {b0 : Nat}
theorem arg_script (hval : Value.okWide Tryz.prog W r b0 28 v) (h : DataW.Trod enc Tryz.prog W 0 (fun _ => true) true 28 v d ps) :
    ∃ (c : Mod.Cf) (ca : Option Addr) (cl cc : Nat) (pa : Option Addr) (pl pc : Nat) (da : Option Addr) (dl dc : Nat) (calls : List (List Cl)) (picks draws : List Int),
      v = .agg #[.int .i64 c.algo, .int .i64 c.threads, .int .i64 c.nodes, .int .i64 c.level, .int .i64 c.batch, .int .i64 c.probes, .int .i64 c.scan, .slice ca cl cc, .slice pa pl pc, .slice da dl dc] ∧ ScrI W.heap ca cl pa pl da dl calls picks draws ∧ ScrR calls picks draws := by
  obtain ⟨vs, rfl, hsz⟩ := okWide_struct Tryz.underlying28 hval
  rw [cellsOf_scr] at hsz
  obtain ⟨fuel, hf⟩ := h
  obtain ⟨l⟩ := vs
  have hl : l.length = 10 := by simpa using hsz
  have hf : DataW.trod enc Tryz.prog W 0 (fun _ => true) true fuel 28 l = some (d, ps) := hf
  obtain ⟨m0, x0, e0⟩ := trod_fieldG Tryz.underlying28 hf 0 _ rfl
  obtain ⟨m1, x1, e1⟩ := trod_fieldG Tryz.underlying28 hf 1 _ rfl
  obtain ⟨m2, x2, e2⟩ := trod_fieldG Tryz.underlying28 hf 2 _ rfl
  obtain ⟨m3, x3, e3⟩ := trod_fieldG Tryz.underlying28 hf 3 _ rfl
  obtain ⟨c, q0⟩ := conf_cells e0
  obtain ⟨ca, cl, cc, q1⟩ := slice_form Tryz.underlying24 e1
  obtain ⟨pa, pl, pc, q2⟩ := slice_form Tryz.underlying25 e2
  obtain ⟨da, dl, dc, q3⟩ := slice_form Tryz.underlying26 e3
  rw [q1] at e1
  rw [q2] at e2
  rw [q3] at e3
  obtain ⟨calls, hcl, hrow⟩ := rows_of (d := x1.1) (ps := x1.2) ⟨m1, e1⟩
  obtain ⟨picks, SP⟩ := arg_sx (f := fun e : Int => [iv e]) (n := 1) (fun _ => rfl) (by omega) Tryz.underlying25 (by kernel_rfl) (fun _ _ _ h => i64_cells h) (d := x2.1) (ps := x2.2) ⟨m2, e2⟩
  obtain ⟨des, SD⟩ := arg_sx (f := fun e : {e : Int // 0 ≤ e ∧ e < 256} => [u8v e.1]) (n := 1) (fun _ => rfl) (by omega) Tryz.underlying26 (by kernel_rfl) (fun _ _ _ h => u8_cells h) (d := x3.1) (ps := x3.2) ⟨m3, e3⟩
  obtain ⟨draws, hdr, SD⟩ := sx_subR (f := fun e : Int => [u8v e]) SD
  refine ⟨c, ca, cl, cc, pa, pl, pc, da, dl, dc, calls, picks, draws, ?_, ⟨⟨hcl.symm, fun i hi => ?_, SP.len.symm, ?_⟩, SD.len.symm, ?_⟩, ⟨fun l hl c hc => ?_, hdr⟩⟩
  · have p0 : (l.drop 0).take (Program.cellsOf Tryz.prog 23) = _ := q0
    have p1 : (l.drop 7).take (Program.cellsOf Tryz.prog 24) = _ := q1
    have p2 : (l.drop 8).take (Program.cellsOf Tryz.prog 25) = _ := q2
    have p3 : (l.drop 9).take (Program.cellsOf Tryz.prog 26) = _ := q3
    rw [cellsOf_cnf] at p0
    rw [cellsOf_clls] at p1
    rw [cellsOf_ints] at p2
    rw [cellsOf_u8s] at p3
    clear q0 q1 q2 q3 e0 e1 e2 e3 hf hval hsz
    rcases l with _ | ⟨y0, l⟩; · simp at hl
    rcases l with _ | ⟨y1, l⟩; · simp at hl
    rcases l with _ | ⟨y2, l⟩; · simp at hl
    rcases l with _ | ⟨y3, l⟩; · simp at hl
    rcases l with _ | ⟨y4, l⟩; · simp at hl
    rcases l with _ | ⟨y5, l⟩; · simp at hl
    rcases l with _ | ⟨y6, l⟩; · simp at hl
    rcases l with _ | ⟨y7, l⟩; · simp at hl
    rcases l with _ | ⟨y8, l⟩; · simp at hl
    rcases l with _ | ⟨y9, l⟩; · simp at hl
    rcases l with _ | ⟨y10, l⟩
    · simp at p0 p1 p2 p3
      obtain ⟨r0, r1, r2, r3, r4, r5, r6⟩ := p0
      rw [r0, r1, r2, r3, r4, r5, r6, p1, p2, p3]
    · simp at hl
  · obtain ⟨ai, ci, q2, q3⟩ := hrow i hi
    have e : calls.getD i [] = calls[i] := by rw [List.getD_eq_getElem?_getD, List.getElem?_eq_getElem hi]; rfl
    rw [e]
    exact ⟨ai, ci, q2, q3.s⟩
  · have := SP.s
    rw [flat1] at this
    exact this
  · have := SD.s
    rw [flat1] at this
    exact this
  · obtain ⟨i, hi, rfl⟩ := List.getElem_of_mem hl
    obtain ⟨ai, ci, q2, q3⟩ := hrow i hi
    exact q3.v c hc
theorem arg_confM (hval : Value.okWide Tryz.prog W r b0 23 v) (h : DataW.Trod enc Tryz.prog W 0 (fun _ => true) true 23 v d ps) : ∃ c : Mod.Cf, v = .agg #[.int .i64 c.algo, .int .i64 c.threads, .int .i64 c.nodes, .int .i64 c.level, .int .i64 c.batch, .int .i64 c.probes, .int .i64 c.scan] := by
  obtain ⟨vs, rfl, hsz⟩ := okWide_struct Tryz.underlying23 hval
  obtain ⟨fuel, hf⟩ := h
  obtain ⟨l⟩ := vs
  have hf : DataW.trod enc Tryz.prog W 0 (fun _ => true) true fuel 23 l = some (d, ps) := hf
  obtain ⟨c, q⟩ := conf_cells hf
  exact ⟨c, by rw [q]⟩
end
end
section
set_option maxHeartbeats 1000000
open Mod
theorem callsL_succ (j n : Nat) (calls : List (List Cl)) : callsL (j + 1) n calls = callsL j n calls ++ [rowL n (calls.getD j [])] := by
  unfold callsL
  rw [List.range_succ, List.map_append]
  rfl
theorem rowL_len (n : Nat) (l : List Cl) : (rowL n l).length = min n l.length := by unfold rowL; rw [List.length_map, List.length_take]
theorem rowL_take {n k : Nat} {l : List Cl} (h : k < (rowL n l).length) : (rowL n l).take (k + 1) = (rowL n l).take k ++ [clL (l.getD k cl0)] := by
  have h2 := h
  rw [rowL_len] at h2
  have e : (rowL n l)[k]? = some (clL (l.getD k cl0)) := by
    unfold rowL
    rw [List.getElem?_map, List.getElem?_take_of_lt (by omega), List.getElem?_eq_getElem (by omega), List.getD_eq_getElem?_getD, List.getElem?_eq_getElem (by omega)]
    rfl
  rw [List.take_add_one, e]
  rfl
theorem map_take_succ {f : Int → Int} {n i : Nat} {l : List Int} (h : i < ((l.take n).map f).length) : ((l.take n).map f).take (i + 1) = ((l.take n).map f).take i ++ [f (l.getD i 0)] := by
  have h2 := h
  rw [List.length_map, List.length_take] at h2
  have e : ((l.take n).map f)[i]? = some (f (l.getD i 0)) := by
    rw [List.getElem?_map, List.getElem?_take_of_lt (by omega), List.getElem?_eq_getElem (by omega), List.getD_eq_getElem?_getD, List.getElem?_eq_getElem (by omega)]
    rfl
  rw [List.take_add_one, e]
  rfl
theorem s64_n1 (i : Nat) (h : i ≤ 60000) : s64 ((i : Int) + 1) = ((i + 1 : Nat) : Int) := by unfold s64; omega
section
variable {K : Value → Heap → Prop} {h : Heap} {R : Hp}
theorem little_call {c0 c : Mod.Cf} {ca pa da : Option Addr} {cl cc0 pl pc0 dl dc0 : Nat} {calls : List (List Cl)} {picks draws : List Int} {n m : Nat} (H : Sat h R)
    (hS : ∀ h' P, Sat h' (P * R) → ScrI h' ca cl pa pl da dl calls picks draws) (hth : 1 ≤ c.threads ∧ c.threads ≤ 6) (hn : n ≤ 1000) (hm : m ≤ 60000)
    (k : ∀ h' ca' cc pa' pc da' dc ps, Sat h' (scrS ca' cc pa' pc da' dc ps (callsL c.threads.toNat n calls) (picksL c.threads m picks) (draws.take 4096) * R) → K (.agg #[.int .i64 c.algo, .int .i64 c.threads, .int .i64 c.nodes, .int .i64 c.level, .int .i64 c.batch, .int .i64 c.probes, .int .i64 c.scan, .slice ca' (callsL c.threads.toNat n calls).length cc, .slice pa' (picksL c.threads m picks).length pc, .slice da' (draws.take 4096).length dc]) h') :
    CallH Tryz.prog 14 #[.agg #[.int .i64 c0.algo, .int .i64 c0.threads, .int .i64 c0.nodes, .int .i64 c0.level, .int .i64 c0.batch, .int .i64 c0.probes, .int .i64 c0.scan, .slice ca cl cc0, .slice pa pl pc0, .slice da dl dc0], cfV c, .int .i64 n, .int .i64 m] h K := by
  refine call14 ?_
  unfold F14 g14 bd lS lI
  have H1 := H.push (.cells (scrC c0 ca cl cc0 pa pl pc0 da dl dc0).toArray 28)
  rw [show (.cells #[.int .i64 c0.algo, .int .i64 c0.threads, .int .i64 c0.nodes, .int .i64 c0.level, .int .i64 c0.batch, .int .i64 c0.probes, .int .i64 c0.scan, .slice ca cl cc0, .slice pa pl pc0, .slice da dl dc0] 28 : Obj) = .cells (scrC c0 ca cl cc0 pa pl pc0 da dl dc0).toArray 28 from rfl]
  generalize h.push (.cells (scrC c0 ca cl cc0 pa pl pc0 da dl dc0).toArray 28) = h1 at *
  generalize h.size = SB at *
  have H2 := H1.push (.cells #[.int .i64 c.algo, .int .i64 c.threads, .int .i64 c.nodes, .int .i64 c.level, .int .i64 c.batch, .int .i64 c.probes, .int .i64 c.scan] 23)
  generalize h1.push (.cells #[.int .i64 c.algo, .int .i64 c.threads, .int .i64 c.nodes, .int .i64 c.level, .int .i64 c.batch, .int .i64 c.probes, .int .i64 c.scan] 23) = h2 at *
  generalize h1.size = CB at *
  have H3 := H2.push (.cells #[.int .i64 0, .int .i64 0, .int .i64 0, .int .i64 0, .int .i64 0, .int .i64 0, .int .i64 0, .slice none 0 0, .slice none 0 0, .slice none 0 0] 28)
  generalize h2.push (.cells #[.int .i64 0, .int .i64 0, .int .i64 0, .int .i64 0, .int .i64 0, .int .i64 0, .int .i64 0, .slice none 0 0, .slice none 0 0, .slice none 0 0] 28) = h3 at *
  generalize h2.size = RB at *
  refine ldR H3.at2 rfl (ldR H3.at2 rfl (ldR H3.at2 rfl (ldR H3.at2 rfl (ldR H3.at2 rfl (ldR H3.at2 rfl (ldR H3.at2 rfl ?_))))))
  have H4 := H3.push (.cells #[.int .i64 0, .int .i64 0, .int .i64 0, .int .i64 0, .int .i64 0, .int .i64 0, .int .i64 0, .slice none 0 0, .slice none 0 0, .slice none 0 0] 28)
  generalize h3.push (.cells #[.int .i64 0, .int .i64 0, .int .i64 0, .int .i64 0, .int .i64 0, .int .i64 0, .int .i64 0, .slice none 0 0, .slice none 0 0, .slice none 0 0] 28) = h4 at *
  generalize h3.size = TB at *
  refine st10 (stN_full (vs := scrC c none 0 0 none 0 0 none 0 0) H4.at rfl (by simp [scrC, oneC]) fun h5 w => ?_)
  have H5 := H4.wr w.new w.old
  clear H1 H2 H3 H4 w
  generalize hFR : pt RB (.cells #[.int .i64 0, .int .i64 0, .int .i64 0, .int .i64 0, .int .i64 0, .int .i64 0, .int .i64 0, .slice none 0 0, .slice none 0 0, .slice none 0 0] 28) * (pt CB (.cells #[.int .i64 c.algo, .int .i64 c.threads, .int .i64 c.nodes, .int .i64 c.level, .int .i64 c.batch, .int .i64 c.probes, .int .i64 c.scan] 23) * (pt SB (.cells (scrC c0 ca cl cc0 pa pl pc0 da dl dc0).toArray 28) * R)) = FR at H5
  -- what is read throughout
  have scr : ∀ {h' : Heap} {X : Hp}, Sat h' (X * FR) → h'[CB]? = some (.cells [.int .i64 c.algo, .int .i64 c.threads, .int .i64 c.nodes, .int .i64 c.level, .int .i64 c.batch, .int .i64 c.probes, .int .i64 c.scan].toArray 23) ∧ h'[SB]? = some (.cells (scrC c0 ca cl cc0 pa pl pc0 da dl dc0).toArray 28) ∧ ScrI h' ca cl pa pl da dl calls picks draws := by
    intro h' X H'
    subst hFR
    refine ⟨H'.drop.drop.at, H'.drop.drop.drop.at, hS h' emp ?_⟩
    rw [emp_star]
    exact H'.drop.drop.drop.drop
  have scr3 : ∀ {h' : Heap} {A B C : Hp}, Sat h' (A * (B * (C * FR))) → h'[CB]? = some (.cells [.int .i64 c.algo, .int .i64 c.threads, .int .i64 c.nodes, .int .i64 c.level, .int .i64 c.batch, .int .i64 c.probes, .int .i64 c.scan].toArray 23) ∧ h'[SB]? = some (.cells (scrC c0 ca cl cc0 pa pl pc0 da dl dc0).toArray 28) ∧ ScrI h' ca cl pa pl da dl calls picks draws := fun {h' A B C} H' => scr (X := A * (B * C)) (by rw [star_assoc, star_assoc]; exact H')
  obtain ⟨oc, os, si⟩ := scr H5
  refine ⟨fun vs h' => vs = [.bool false] ∧ h' = h5, ?_, ?_⟩
  · refine ldR oc rfl ?_
    try simp only [nilC, bsx, Nat.reduceAdd, Int.reduceLE, Int.reduceLT, Int.reduceToNat]
    refine ifB_dec (fun c1 => by omega) (fun c1 => ?_)
    refine ldR oc rfl ?_
    try simp only [nilC, bsx, Nat.reduceAdd, Int.reduceLE, Int.reduceLT, Int.reduceToNat]
    rw [decide_eq_false (by omega : ¬ c.threads > 6)]
    first | done | exact ⟨by trivial, by trivial⟩ | trivial
  rintro v22 g23 h24 ⟨e, rfl⟩
  cases e
  try simp only [nilC, bsx, Nat.reduceAdd, Int.reduceLE, Int.reduceLT, Int.reduceToNat]
  clear oc os si
  -- the calls
  refine ⟨fun vs h' => ∃ (j : Nat) (w1 w2 : Value) (ca' : Option Addr) (cc : Nat) (ps : List (Option Addr × Nat)), vs = [.int .i64 j, w1, w2] ∧ j ≤ c.threads.toNat ∧ ps.length = j ∧ Sat h' (pt TB (.cells (scrC c ca' j cc none 0 0 none 0 0).toArray 28) * (ownS 66 1 ca' j cc ((ps.zip (callsL j n calls)).flatMap rowV) * (rowsS ps (callsL j n calls) * FR))), fun vs _ => match vs with | [.int _ i, _, _] => (c.threads - i).toNat | _ => 0, ⟨0, _, _, none, 0, [], rfl, Nat.zero_le _, rfl, ?_⟩, ?_⟩
  · have H6 := H5.own_new 66 1
    have e0 : rowsS [] (callsL 0 n calls) = emp := by unfold rowsS; rfl
    rw [e0, emp_star]
    rw [star_left] at H6
    exact H6
  rintro v58 v59 v60 g61 h62 ⟨j, w1, w2, ca', cc, ps, e, hj, hps, H6⟩
  cases e
  obtain ⟨oc, os, si⟩ := scr3 H6
  try simp only [nilC, bsx, Nat.reduceAdd, Int.reduceLE, Int.reduceLT, Int.reduceToNat]
  refine ldR oc rfl ?_
  try simp only [nilC, bsx, Nat.reduceAdd, Int.reduceLE, Int.reduceLT, Int.reduceToNat]
  refine ifB_dec (fun c1 => ?_) (fun c1 => ?_)
  · generalize hrow : calls.getD j [] = row at *
    have hcl := si.f.cs
    refine ⟨fun vs h' => ∃ (q : Nat) (la : Option Addr) (lc : Nat), vs = [.slice la q lc, .int .i64 q] ∧ q ≤ (rowL n row).length ∧ Sat h' (ownS 53 3 la q lc (((rowL n row).take q).flatMap clc) * (pt TB (.cells (scrC c ca' j cc none 0 0 none 0 0).toArray 28) * (ownS 66 1 ca' j cc ((ps.zip (callsL j n calls)).flatMap rowV) * (rowsS ps (callsL j n calls) * FR)))), fun vs _ => match vs with | [_, .int _ i] => (2000 - i).toNat | _ => 0, ⟨0, none, 0, rfl, Nat.zero_le _, H6.own_new 53 3⟩, ?_⟩
    rintro v68 v69 g70 h71 ⟨q, la, lc, e, hq, H7⟩
    cases e
    clear oc os si
    obtain ⟨oc, os, si⟩ := scr3 H7.drop
    have hlen := rowL_len n row
    have hrl : ¬ j < calls.length → row = [] := fun hh => by
      rw [← hrow, List.getD_eq_getElem?_getD, List.getElem?_eq_none (by omega)]
      rfl
    refine ⟨fun vs h' => (∃ w, vs = [w, .bool (decide (q < (rowL n row).length))]) ∧ h' = h71, ?_, ?_⟩
    · try simp only [nilC, bsx, Nat.reduceAdd, Int.reduceLE, Int.reduceLT, Int.reduceToNat]
      refine ldR os rfl ?_
      try simp only [nilC, bsx, Nat.reduceAdd, Int.reduceLE, Int.reduceLT, Int.reduceToNat]
      refine ifB_dec (fun c2 => ?_) (fun c2 => ?_)
      · obtain ⟨ra, rc, ⟨ad2, ea2, hcr⟩, hrw⟩ := si.f.row j (by omega)
        rw [hrow] at hcr hrw
        refine ldR os rfl ?_
        try simp only [nilC, bsx, Nat.reduceAdd, Int.reduceLE, Int.reduceLT, Int.reduceToNat]
        subst ea2
        refine ⟨by omega, by omega, ?_⟩
        try simp only [nilC, bsx, Nat.reduceAdd, Int.reduceLE, Int.reduceLT, Int.reduceToNat]
        refine ldH_mk hcr ?_
        try simp only [nilC, bsx, Nat.reduceAdd, Int.reduceLE, Int.reduceLT, Int.reduceToNat]
        refine ifB_dec (fun c3 => ?_) (fun c3 => ?_)
        · rw [show decide ((q : Int) < (n : Int)) = decide (q < (rowL n row).length) by rw [decide_eq_decide]; omega]
          first | exact ⟨⟨_, rfl⟩, by trivial⟩ | exact ⟨_, rfl⟩
        · rw [decide_eq_false (by omega : ¬ q < (rowL n row).length)]
          first | exact ⟨⟨_, rfl⟩, by trivial⟩ | exact ⟨_, rfl⟩
      · have := hrl (by omega)
        rw [decide_eq_false (by rw [hlen, this]; simp : ¬ q < (rowL n row).length)]
        first | exact ⟨⟨_, rfl⟩, by trivial⟩ | exact ⟨_, rfl⟩
    rintro v90 v91 g92 h93 ⟨⟨w, e⟩, rfl⟩
    cases e
    try simp only [nilC, bsx, Nat.reduceAdd, Int.reduceLE, Int.reduceLT, Int.reduceToNat]
    refine ifB_dec (fun c2 => ?_) (fun c2 => ?_)
    · have hjl : j < calls.length := Decidable.byContradiction fun hh => by
        have := hrl hh
        rw [hlen, this] at c2
        simp at c2
      have hql : q < row.length := by omega
      obtain ⟨ra, rc, ⟨ad2, ea2, hcr⟩, hrw⟩ := si.f.row j hjl
      rw [hrow] at hcr hrw
      have hcq : row.getD q cl0 = row[q] := by rw [List.getD_eq_getElem?_getD, List.getElem?_eq_getElem hql]; rfl
      have htk := rowL_take c2
      generalize hcc : row.getD q cl0 = cq at *
      have g0 := flat_get clc_len hql (j := 0) (by omega)
      have g1 := flat_get clc_len hql (j := 1) (by omega)
      have g2 := flat_get clc_len hql (j := 2) (by omega)
      rw [← hcq] at g0 g1 g2
      obtain ⟨ad3, ea3, hc0⟩ := hrw (q * 3 + 0) (.int .i64 cq.op) g0
      subst ea3
      obtain ⟨_, ea4, hc1⟩ := hrw (q * 3 + 1) (.int .u32 cq.key) g1
      cases ea4
      obtain ⟨_, ea4, hc2⟩ := hrw (q * 3 + 2) (.int .u32 cq.val) g2
      cases ea4
      have aa : ∀ i, (ad3.add (q * 3)).add i = ad3.add (q * 3 + i) := fun i => add_add _ _ _
      rw [Nat.add_zero] at hc0
      refine ldR os rfl ?_
      try simp only [nilC, bsx, Nat.reduceAdd, Int.reduceLE, Int.reduceLT, Int.reduceToNat]
      subst ea2
      refine ⟨by omega, by omega, ?_⟩
      try simp only [nilC, bsx, Nat.reduceAdd, Int.reduceLE, Int.reduceLT, Int.reduceToNat]
      refine ldH_mk hcr ?_
      try simp only [nilC, bsx, Nat.reduceAdd, Int.reduceLE, Int.reduceLT, Int.reduceToNat]
      refine ⟨by omega, by omega, ?_⟩
      try simp only [nilC, bsx, Nat.reduceAdd, Int.reduceLE, Int.reduceLT, Int.reduceToNat, aa]
      refine ldH_mk hc0 (ldH_mk hc1 (ldH_mk hc2 ?_))
      have H8 := H7.push (.cells #[.int .i64 0, .int .u32 0, .int .u32 0] 53)
      generalize h93.push (.cells #[.int .i64 0, .int .u32 0, .int .u32 0] 53) = h94 at *
      generalize h93.size = AB at *
      refine st3 (stN_full (vs := clc cq) H8.at rfl (by simp [clc, oneC]) fun h112 w => ?_)
      have H9 := H8.wr w.new w.old
      clear H8 w
      refine ldR H9.at rfl ?_
      try simp only [nilC, bsx, Nat.reduceAdd, Int.reduceLE, Int.reduceLT, Int.reduceToNat]
      refine ⟨by decide, by decide, ?_⟩
      have H10 := H9.push (.cells #[.int .i64 0, .int .u32 0, .int .u32 0] 53)
      generalize h112.push (.cells #[.int .i64 0, .int .u32 0, .int .u32 0] 53) = h113 at *
      generalize h112.size = DB at *
      refine st3 (stN_full (vs := [.int .i64 (opL cq.op), .int .u32 0, .int .u32 0]) H10.at rfl (by simp [oneC]) fun h117 w => ?_)
      have H11 := H10.wr w.new w.old
      clear H10 w H9
      refine ⟨fun vs h' => Sat h' (pt DB (.cells (clc (clL cq)).toArray 53) * (pt AB (.cells (clc cq).toArray 53) * (ownS 53 3 la q lc (((rowL n row).take q).flatMap clc) * (pt TB (.cells (scrC c ca' j cc none 0 0 none 0 0).toArray 28) * (ownS 66 1 ca' j cc ((ps.zip (callsL j n calls)).flatMap rowV) * (rowsS ps (callsL j n calls) * FR)))))), ?_, ?_⟩
      · refine ldR H11.at rfl ?_
        try simp only [nilC, bsx, Nat.reduceAdd, Int.reduceLE, Int.reduceLT, Int.reduceToNat]
        refine ifB_mk (fun c3 => ?_) (fun c3 => ?_)
        · have c3 : opL cq.op = 0 := by simpa using c3
          refine ldR H11.at2 rfl ?_
          simp only [asInt_int]
          refine H11.st (i := 1) rfl trivial fun h1 H12 => ?_
          refine ldR H12.at2 rfl ?_
          simp only [asInt_int]
          refine H12.st (i := 2) rfl trivial fun h2 H13 => ?_
          have e : clL cq = ⟨0, cq.key, cq.val⟩ := by unfold clL; rw [if_pos c3]
          rw [e]
          rw [c3] at H13
          exact H13
        · have c3 : ¬ opL cq.op = 0 := by simpa using c3
          have e : clL cq = ⟨opL cq.op, 0, 0⟩ := by unfold clL; rw [if_neg c3]
          rw [e]
          exact H11
      rintro g127 h128 H12
      try simp only [nilC, bsx, Nat.reduceAdd, Int.reduceLE, Int.reduceLT, Int.reduceToNat]
      refine ldR H12.at rfl (ldR H12.at rfl (ldR H12.at rfl ?_))
      have H13 : Sat h128 (ownS 53 3 la q lc (((rowL n row).take q).flatMap clc) * (pt TB (.cells (scrC c ca' j cc none 0 0 none 0 0).toArray 28) * (ownS 66 1 ca' j cc ((ps.zip (callsL j n calls)).flatMap rowV) * (rowsS ps (callsL j n calls) * FR)))) := H12.drop.drop
      refine app_cl (x := clL cq) H13 (by omega) fun a' c' h136 H14 => ?_
      try simp only [nilC, bsx, Nat.reduceAdd, Int.reduceLE, Int.reduceLT, Int.reduceToNat]
      rw [s64_n1 q (by omega)]
      refine ⟨⟨q + 1, a', c', rfl, by omega, by rw [htk]; exact H14⟩, ?_⟩
      show ((2000 : Int) - ((q + 1 : Nat) : Int)).toNat < ((2000 : Int) - (q : Int)).toNat
      omega
    · have eq : q = (rowL n row).length := by omega
      have et : (rowL n row).take q = rowL n row := List.take_of_length_le (by omega)
      rw [et] at H7
      refine ldR H7.at2 rfl ?_
      try simp only [nilC, bsx, Nat.reduceAdd, Int.reduceLE, Int.reduceLT, Int.reduceToNat]
      have H8 : Sat h93 (ownS 66 1 ca' j cc ((ps.zip (callsL j n calls)).flatMap rowV) * (pt TB (.cells (scrC c ca' j cc none 0 0 none 0 0).toArray 28) * (rowsS ps (callsL j n calls) * (ownS 53 3 la q lc ((rowL n row).flatMap clc) * FR)))) := Sat.ac H7 (by ac_rfl)
      refine app_cll (p := (la, lc)) (x := rowL n row) H8 (by rw [hps, callsL_len]) eq (by omega) fun a' c' h149 H9 => ?_
      try simp only [nilC, bsx, Nat.reduceAdd, Int.reduceLE, Int.reduceLT, Int.reduceToNat]
      rw [star_left] at H9
      refine H9.st (i := 7) rfl trivial fun h153 H10 => ?_
      try simp only [nilC, bsx, Nat.reduceAdd, Int.reduceLE, Int.reduceLT, Int.reduceToNat]
      rw [s64_n1 j (by omega)]
      refine ⟨⟨j + 1, _, _, a', c', ps ++ [(la, lc)], rfl, by omega, by rw [List.length_append, hps]; rfl, ?_⟩, ?_⟩
      · rw [callsL_succ, hrow, rowsS_snoc (la, lc) _ _ _ (by rw [hps, callsL_len]), star_assoc]
        subst eq
        exact H10
      · show (c.threads - ((j + 1 : Nat) : Int)).toNat < (c.threads - (j : Int)).toNat
        omega
  -- the picks
  have ej : j = c.threads.toNat := by omega
  have hPL : (picksL c.threads m picks).length = min m picks.length := by unfold picksL; rw [List.length_map, List.length_take]
  generalize hCL : callsL j n calls = CL at *
  refine ⟨fun vs h' => ∃ (i : Nat) (pa' : Option Addr) (pc : Nat), vs = [.int .i64 i] ∧ i ≤ (picksL c.threads m picks).length ∧ Sat h' (ownS 3 1 pa' i pc (((picksL c.threads m picks).take i).map iv) * (pt TB (.cells (scrC c ca' j cc pa' i pc none 0 0).toArray 28) * (ownS 66 1 ca' j cc ((ps.zip CL).flatMap rowV) * (rowsS ps CL * FR)))), fun vs _ => match vs with | [.int _ i] => (70000 - i).toNat | _ => 0, ⟨0, none, 0, rfl, Nat.zero_le _, H6.own_new 3 1⟩, ?_⟩
  rintro v157 g158 h159 ⟨i, pa', pc, e, hi, H7⟩
  cases e
  clear oc os si H6
  obtain ⟨oc, os, si⟩ := scr3 H7.drop
  have hps2 := si.f.ps
  refine ⟨fun vs h' => vs = [.bool (decide (i < (picksL c.threads m picks).length))] ∧ h' = h159, ?_, ?_⟩
  · try simp only [nilC, bsx, Nat.reduceAdd, Int.reduceLE, Int.reduceLT, Int.reduceToNat]
    refine ldR os rfl ?_
    try simp only [nilC, bsx, Nat.reduceAdd, Int.reduceLE, Int.reduceLT, Int.reduceToNat]
    refine ifB_dec (fun c2 => ?_) (fun c2 => ?_)
    · rw [show decide ((i : Int) < (m : Int)) = decide (i < (picksL c.threads m picks).length) by rw [decide_eq_decide]; omega]
      first | done | exact ⟨by trivial, by trivial⟩ | trivial
    · rw [decide_eq_false (by omega : ¬ i < (picksL c.threads m picks).length)]
      first | done | exact ⟨by trivial, by trivial⟩ | trivial
  rintro v167 g168 h169 ⟨e, rfl⟩
  cases e
  try simp only [nilC, bsx, Nat.reduceAdd, Int.reduceLE, Int.reduceLT, Int.reduceToNat]
  refine ifB_dec (fun c2 => ?_) (fun c2 => ?_)
  · have hil : i < picks.length := by omega
    have htk := map_take_succ (f := pickL c.threads) c2
    have hpi : picks.getD i 0 = picks[i] := by rw [List.getD_eq_getElem?_getD, List.getElem?_eq_getElem hil]; rfl
    obtain ⟨ad, ea, hc⟩ := si.f.pk i (.int .i64 (picks.getD i 0)) (by rw [hpi, List.getElem?_map, List.getElem?_eq_getElem hil]; rfl)
    subst ea
    generalize picks.getD i 0 = pk at *
    refine ldR H7.at2 rfl ?_
    try simp only [nilC, bsx, Nat.reduceAdd, Int.reduceLE, Int.reduceLT, Int.reduceToNat]
    refine ldR os rfl ?_
    try simp only [nilC, bsx, Nat.reduceAdd, Int.reduceLE, Int.reduceLT, Int.reduceToNat]
    refine ⟨by omega, by omega, ?_⟩
    try simp only [nilC, bsx, Nat.reduceAdd, Int.reduceLE, Int.reduceLT, Int.reduceToNat]
    refine ldH_mk hc ?_
    try simp only [nilC, bsx, Nat.reduceAdd, Int.reduceLE, Int.reduceLT, Int.reduceToNat]
    refine ldR oc rfl ?_
    try simp only [nilC, bsx, Nat.reduceAdd, Int.reduceLE, Int.reduceLT, Int.reduceToNat]
    refine ⟨by omega, ?_⟩
    refine ldR oc rfl ?_
    try simp only [nilC, bsx, Nat.reduceAdd, Int.reduceLE, Int.reduceLT, Int.reduceToNat]
    refine ldR oc rfl ?_
    try simp only [nilC, bsx, Nat.reduceAdd, Int.reduceLE, Int.reduceLT, Int.reduceToNat]
    refine ⟨by omega, cell_push (cellR H7.at2 rfl), ?_⟩
    refine app_il (x := pickL c.threads pk) H7 (by omega) fun a' c' h190 H8 => ?_
    try simp only [nilC, bsx, Nat.reduceAdd, Int.reduceLE, Int.reduceLT, Int.reduceToNat]
    rw [star_left] at H8
    refine H8.st (i := 8) rfl trivial fun h194 H9 => ?_
    try simp only [nilC, bsx, Nat.reduceAdd, Int.reduceLE, Int.reduceLT, Int.reduceToNat]
    rw [s64_n1 i (by omega)]
    rw [star_left] at H9
    refine ⟨⟨i + 1, a', c', rfl, by omega, ?_⟩, ?_⟩
    · have htk : (picksL c.threads m picks).take (i + 1) = (picksL c.threads m picks).take i ++ [pickL c.threads pk] := htk
      rw [htk]
      exact H9
    · show ((70000 : Int) - ((i + 1 : Nat) : Int)).toNat < ((70000 : Int) - (i : Int)).toNat
      omega
  -- the draws
  have ei : i = (picksL c.threads m picks).length := by omega
  have et : (picksL c.threads m picks).take i = picksL c.threads m picks := List.take_of_length_le (by omega)
  rw [et] at H7
  generalize hPP : picksL c.threads m picks = PP at *
  have hDL : (draws.take 4096).length = min 4096 draws.length := List.length_take ..
  refine ⟨fun vs h' => ∃ (d : Nat) (da' : Option Addr) (dc : Nat), vs = [.int .i64 d] ∧ d ≤ (draws.take 4096).length ∧ Sat h' (ownS 5 1 da' d dc (((draws.take 4096).take d).map u8v) * (pt TB (.cells (scrC c ca' j cc pa' i pc da' d dc).toArray 28) * (ownS 3 1 pa' i pc (PP.map iv) * (ownS 66 1 ca' j cc ((ps.zip CL).flatMap rowV) * (rowsS ps CL * FR))))), fun vs _ => match vs with | [.int _ i] => (70000 - i).toNat | _ => 0, ⟨0, none, 0, rfl, Nat.zero_le _, ?_⟩, ?_⟩
  · rw [star_left] at H7
    exact H7.own_new 5 1
  rintro v198 g199 h200 ⟨d, da', dc, e, hd, H8⟩
  cases e
  clear oc os si H7
  obtain ⟨oc, os, si⟩ := scr3 H8.drop.drop
  have hds := si.ds
  refine ⟨fun vs h' => vs = [.bool (decide (d < (draws.take 4096).length))] ∧ h' = h200, ?_, ?_⟩
  · try simp only [nilC, bsx, Nat.reduceAdd, Int.reduceLE, Int.reduceLT, Int.reduceToNat]
    refine ldR os rfl ?_
    try simp only [nilC, bsx, Nat.reduceAdd, Int.reduceLE, Int.reduceLT, Int.reduceToNat]
    refine ifB_dec (fun c3 => ?_) (fun c3 => ?_)
    · rw [show decide ((d : Int) < 4096) = decide (d < (draws.take 4096).length) by rw [decide_eq_decide]; omega]
      first | done | exact ⟨by trivial, by trivial⟩ | trivial
    · rw [decide_eq_false (by omega : ¬ d < (draws.take 4096).length)]
      first | done | exact ⟨by trivial, by trivial⟩ | trivial
  rintro v208 g209 h210 ⟨e, rfl⟩
  cases e
  try simp only [nilC, bsx, Nat.reduceAdd, Int.reduceLE, Int.reduceLT, Int.reduceToNat]
  refine ifB_dec (fun c3 => ?_) (fun c3 => ?_)
  · have hdl : d < draws.length := by omega
    have htk : (draws.take 4096).take (d + 1) = (draws.take 4096).take d ++ [draws[d]] := by
      rw [List.take_succ_eq_append_getElem c3, List.getElem_take]
    obtain ⟨ad, ea, hc⟩ := si.dr d (.int .u8 draws[d]) (by rw [List.getElem?_map, List.getElem?_eq_getElem hdl]; rfl)
    subst ea
    generalize draws[d] = dk at *
    refine ldR H8.at2 rfl ?_
    try simp only [nilC, bsx, Nat.reduceAdd, Int.reduceLE, Int.reduceLT, Int.reduceToNat]
    refine ldR os rfl ?_
    try simp only [nilC, bsx, Nat.reduceAdd, Int.reduceLE, Int.reduceLT, Int.reduceToNat]
    refine ⟨by omega, by omega, ?_⟩
    try simp only [nilC, bsx, Nat.reduceAdd, Int.reduceLE, Int.reduceLT, Int.reduceToNat]
    refine ldH_mk hc ?_
    try simp only [nilC, bsx, Nat.reduceAdd, Int.reduceLE, Int.reduceLT, Int.reduceToNat]
    refine ⟨cell_push (cellR H8.at2 rfl), ?_⟩
    refine app_u8 (x := dk) H8 (by omega) fun a' c' h225 H9 => ?_
    try simp only [nilC, bsx, Nat.reduceAdd, Int.reduceLE, Int.reduceLT, Int.reduceToNat]
    rw [star_left] at H9
    refine H9.st (i := 9) rfl trivial fun h229 H10 => ?_
    try simp only [nilC, bsx, Nat.reduceAdd, Int.reduceLE, Int.reduceLT, Int.reduceToNat]
    rw [s64_n1 d (by omega)]
    rw [star_left] at H10
    refine ⟨⟨d + 1, a', c', rfl, by omega, by rw [htk]; exact H10⟩, ?_⟩
    show ((70000 : Int) - ((d + 1 : Nat) : Int)).toNat < ((70000 : Int) - (d : Int)).toNat
    omega
  -- the end
  have ed : d = (draws.take 4096).length := by omega
  have et2 : (draws.take 4096).take d = draws.take 4096 := List.take_of_length_le (by omega)
  rw [et2] at H8
  rw [← hFR] at H8
  have H9 : Sat h210 (pt RB (.cells #[.int .i64 0, .int .i64 0, .int .i64 0, .int .i64 0, .int .i64 0, .int .i64 0, .int .i64 0, .slice none 0 0, .slice none 0 0, .slice none 0 0] 28) * (pt TB (.cells (scrC c ca' j cc pa' i pc da' d dc).toArray 28) * (pt CB (.cells #[.int .i64 c.algo, .int .i64 c.threads, .int .i64 c.nodes, .int .i64 c.level, .int .i64 c.batch, .int .i64 c.probes, .int .i64 c.scan] 23) * (pt SB (.cells (scrC c0 ca cl cc0 pa pl pc0 da dl dc0).toArray 28) * (ownS 66 1 ca' j cc ((ps.zip CL).flatMap rowV) * (rowsS ps CL * (ownS 3 1 pa' i pc (PP.map iv) * (ownS 5 1 da' d dc ((draws.take 4096).map u8v) * R)))))))) := Sat.ac H8 (by ac_rfl)
  have OT := H9.at2
  refine ldR OT rfl (ldR OT rfl (ldR OT rfl (ldR OT rfl (ldR OT rfl (ldR OT rfl (ldR OT rfl (ldR OT rfl (ldR OT rfl (ldR OT rfl ?_)))))))))
  refine st10 (stN_full (vs := scrC c ca' j cc pa' i pc da' d dc) H9.at rfl (by simp [scrC, oneC]) fun h250 w => ?_)
  have H10 := H9.wr w.new w.old
  have OR := H10.at
  refine ldR OR rfl (ldR OR rfl (ldR OR rfl (ldR OR rfl (ldR OR rfl (ldR OR rfl (ldR OR rfl (ldR OR rfl (ldR OR rfl (ldR OR rfl ?_)))))))))
  have eCL : CL = callsL c.threads.toNat n calls := by rw [← hCL, ej]
  have eL : CL.length = j := by rw [← hCL, callsL_len]
  rw [eCL] at eL
  have hk := k h250 ca' cc pa' pc da' dc ps (scrS_iff.2 ⟨by rw [hps, eL], by rw [eL, ← eCL, ← ei, ← ed]; exact H10.drop.drop.drop.drop⟩)
  rw [eL, ← ei, ← ed] at hk
  exact hk
end
end
end Go.Proofs.YtglgifgoojncpaaGreat
section
namespace Go.Proofs.YtglgifgoojncpaaGreat.Mod
def Mac.un (m : Mac) : Mac := { m with g := none }
def Run.un (x : Run) : Run := { x with m := x.m.un }
theorem un_touch (m : Mac) (a : Int) : m.un.touch a = (m.touch a).un := by
  unfold Mac.touch
  show (match m.p.within a with | some n => _ | none => _) = _
  cases m.p.within a <;> rfl
theorem un_mload (m : Mac) (a : Int) : m.un.load a = ((m.load a).1, (m.load a).2.un) := by
  unfold Mac.load
  dsimp only
  rw [un_touch]
  show (if (m.touch a).mm.ok a = true then _ else _) = _
  split <;> rfl
theorem un_mstore (m : Mac) (a v : Int) : m.un.store a v = (m.store a v).un := by
  unfold Mac.store
  dsimp only
  rw [un_touch]
  show (if (m.touch a).mm.ok a = true then _ else _) = _
  split <;> rfl
theorem un_mcas (m : Mac) (a o n : Int) : m.un.cas a o n = ((m.cas a o n).1, (m.cas a o n).2.un) := by
  unfold Mac.cas
  dsimp only
  rw [un_touch]
  show (if (m.touch a).mm.ok a = true then _ else _) = _
  split <;> rfl
theorem un_madd (m : Mac) (a d : Int) : m.un.add a d = ((m.add a d).1, (m.add a d).2.un) := by
  unfold Mac.add
  dsimp only
  rw [un_touch]
  show (if (m.touch a).mm.ok a = true then _ else _) = _
  split <;> rfl
theorem un_mdcas (m : Mac) (a o n b p q : Int) : m.un.dcas a o n b p q = ((m.dcas a o n b p q).1, (m.dcas a o n b p q).2.un) := by
  unfold Mac.dcas
  dsimp only
  rw [un_touch, un_touch]
  show (if ((m.touch a).touch b).mm.ok a = true ∧ ((m.touch a).touch b).mm.ok b = true ∧ a ≠ b then _ else _) = _
  split <;> rfl
theorem un_mdcss (m : Mac) (a o n b p : Int) : m.un.dcss a o n b p = ((m.dcss a o n b p).1, (m.dcss a o n b p).2.un) := by
  unfold Mac.dcss
  dsimp only
  rw [un_touch, un_touch]
  show (if ((m.touch a).touch b).mm.ok a = true ∧ ((m.touch a).touch b).mm.ok b = true then _ else _) = _
  split <;> rfl
theorem un_mnext (m : Mac) (n : Int) : m.un.next n = ((m.next n).1, (m.next n).2.un) := by
  unfold Mac.next
  split <;> rfl
theorem un_mlvl (m : Mac) (n : Int) : m.un.lvl n = ((m.lvl n).1, (m.lvl n).2.un) := by
  unfold Mac.lvl
  split <;> rfl
section
variable (x : Run)
theorem un_f : x.un.f = x.f := rfl
theorem un_t : x.un.t = x.t := rfl
theorem un_id : x.un.id = x.id := rfl
theorem un_m : x.un.m = x.m.un := rfl
theorem un_p (m : Mac) : m.un.p = m.p := rfl
theorem un_acted (m : Mac) : m.un.acted = m.acted := rfl
theorem un_ret (i : Nat) : x.un.ret i = x.ret i := rfl
theorem un_s (i : Nat) (v : Int) : x.un.s i v = (x.s i v).un := rfl
theorem un_pc (i : Int) : x.un.pc i = (x.pc i).un := rfl
theorem un_push (i : Int) (r : List Int) : x.un.push i r = (x.push i r).un := rfl
theorem un_pop (r : List Int) : x.un.pop r = (x.pop r).un := rfl
theorem un_call (i j : Int) (r : List Int) : x.un.call i j r = (x.call i j r).un := rfl
theorem un_fin (i j k : Int) : x.un.fin i j k = (x.fin i j k).un := rfl
theorem un_fo (l : List Int) : x.un.fo l = (x.fo l).un := rfl
theorem un_re (l : List Int) : x.un.re l = (x.re l).un := rfl
theorem un_setPl (p s w : List Int) : x.un.setPl p s w = (x.setPl p s w).un := rfl
theorem un_gh (f : Gh → Gh) : x.un.gh f = (x.gh f).un := rfl
theorem un_at (i : Int) : x.un.at i = x.at i := rfl
theorem un_nodeW (i j : Int) : x.un.nodeW i j = x.nodeW i j := rfl
theorem un_nlink (i j : Int) : x.un.nlink i j = x.nlink i j := rfl
theorem un_na (i j : Int) : x.un.na i j = x.na i j := rfl
theorem un_load (a : Int) : x.un.load a = ((x.load a).1, (x.load a).2.un) := by
  unfold Run.load; rw [un_m, un_mload]; rfl
theorem un_store (a v : Int) : x.un.store a v = (x.store a v).un := by
  unfold Run.store; rw [un_m, un_mstore]; rfl
theorem un_cas (a o n : Int) : x.un.cas a o n = ((x.cas a o n).1, (x.cas a o n).2.un) := by
  unfold Run.cas; rw [un_m, un_mcas]; rfl
theorem un_add (a d : Int) : x.un.add a d = ((x.add a d).1, (x.add a d).2.un) := by
  unfold Run.add; rw [un_m, un_madd]; rfl
theorem un_swing (a w p : Int) (b : Bool) : x.un.swing a w p b = ((x.swing a w p b).1, (x.swing a w p b).2.un) := by
  unfold Run.swing; rw [un_cas]; rfl
theorem un_swingA (a w p : Int) : x.un.swingA a w p = ((x.swingA a w p).1, (x.swingA a w p).2.un) := by
  unfold Run.swingA; rw [un_cas]
theorem un_swingM (a w p : Int) (b : Bool) : x.un.swingM a w p b = ((x.swingM a w p b).1, (x.swingM a w p b).2.un) := by
  unfold Run.swingM; rw [un_cas]
theorem un_drop1 (n : Int) : x.un.drop1 n = ((x.drop1 n).1, (x.drop1 n).2.un) := by
  unfold Run.drop1; rw [un_add]; rfl
theorem un_guard (i j : Int) : x.un.guard i j = (x.guard i j).un := by
  unfold Run.guard; rw [un_store]; rfl
theorem un_withm (m : Mac) : ({ x.un with m := m.un } : Run) = ({ x with m := m } : Run).un := rfl
theorem un_mk (m : Mac) (t : Thr) (i : Int) : (⟨m.un, t, i⟩ : Run) = (⟨m, t, i⟩ : Run).un := rfl
theorem ite_un {c : Prop} [Decidable c] (a b : Run) : (if c then a.un else b.un) = (if c then a else b).un := by split <;> rfl
end
theorem ite_cong {c : Prop} {i1 i2 : Decidable c} {a b a' b' : Run} (h1 : a = a'.un) (h2 : b = b'.un) : @ite _ c i1 a b = (@ite _ c i2 a' b').un := by
  by_cases h : c
  · rw [if_pos h, if_pos h]; exact h1
  · rw [if_neg h, if_neg h]; exact h2
theorem usx : type_of% (And.intro @un_f (And.intro @un_t (And.intro @un_id (And.intro @un_m (And.intro @un_p (And.intro @un_acted (And.intro @un_ret (And.intro @un_s (And.intro @un_pc (And.intro @un_push (And.intro @un_pop (And.intro @un_call (And.intro @un_fin (And.intro @un_fo (And.intro @un_re (And.intro @un_setPl (And.intro @un_gh (And.intro @un_at (And.intro @un_nodeW (And.intro @un_nlink (And.intro @un_na (And.intro @un_load (And.intro @un_store (And.intro @un_cas (And.intro @un_add (And.intro @un_swing (And.intro @un_swingA (And.intro @un_swingM (And.intro @un_drop1 (And.intro @un_guard (And.intro @un_mnext (And.intro @un_mlvl (And.intro @un_mdcss (And.intro @un_mdcas (And.intro @un_withm (And.intro @un_mk @ite_un)))))))))))))))))))))))))))))))))))) := And.intro @un_f (And.intro @un_t (And.intro @un_id (And.intro @un_m (And.intro @un_p (And.intro @un_acted (And.intro @un_ret (And.intro @un_s (And.intro @un_pc (And.intro @un_push (And.intro @un_pop (And.intro @un_call (And.intro @un_fin (And.intro @un_fo (And.intro @un_re (And.intro @un_setPl (And.intro @un_gh (And.intro @un_at (And.intro @un_nodeW (And.intro @un_nlink (And.intro @un_na (And.intro @un_load (And.intro @un_store (And.intro @un_cas (And.intro @un_add (And.intro @un_swing (And.intro @un_swingA (And.intro @un_swingM (And.intro @un_drop1 (And.intro @un_guard (And.intro @un_mnext (And.intro @un_mlvl (And.intro @un_mdcss (And.intro @un_mdcas (And.intro @un_withm (And.intro @un_mk @ite_un)))))))))))))))))))))))))))))))))))
theorem alloc_un (x : Run) : alloc x.un = (alloc x).un := by unfold alloc; dsimp only; simp only [usx]
theorem release_un (x : Run) : release x.un = (release x).un := by unfold release; dsimp only; simp only [usx]
theorem arenaDo_un (x : Run) : arenaDo x.un = (arenaDo x).un := by unfold arenaDo; simp only [alloc_un, release_un]; simp only [usx]; (repeat' (first | rfl | apply ite_cong))
theorem protect_un (x : Run) : protect x.un = (protect x).un := by unfold protect; dsimp only; simp only [usx]
theorem wipe_un (x : Run) : wipe x.un = (wipe x).un := by unfold wipe; dsimp only; simp only [usx]
theorem retire_un (x : Run) : retire x.un = (retire x).un := by unfold retire; dsimp only; simp only [usx]; (repeat' (first | rfl | apply ite_cong))
theorem scanA_un (x : Run) (all : Int) : scanA x.un all = (scanA x all).un := by unfold scanA; simp only [usx]; (repeat' (first | rfl | apply ite_cong))
theorem scanB_un (x : Run) : scanB x.un = (scanB x).un := by
  unfold scanB
  rw [un_t]
  cases x.t.found <;> rfl
theorem scan_un (x : Run) : scan x.un = (scan x).un := by
  have e0 : (if x.un.f.pc = 0 then x.un.fo [] else x.un) = (if x.f.pc = 0 then x.fo [] else x).un := by (repeat' (first | rfl | apply ite_cong))
  unfold scan
  dsimp only
  rw [e0]
  generalize (if x.f.pc = 0 then x.fo [] else x) = y
  simp only [usx]
  simp only [scanA_un, scanB_un]
  (repeat' (first | rfl | apply ite_cong))
theorem hazardDo_un (x : Run) : hazardDo x.un = (hazardDo x).un := by unfold hazardDo; simp only [protect_un, wipe_un, retire_un, scan_un, arenaDo_un]; simp only [usx]; (repeat' (first | rfl | apply ite_cong))
theorem lSettle_un (x : Run) : lSettle x.un = (lSettle x).un := by unfold lSettle; dsimp only; simp only [usx]; (repeat' (first | rfl | apply ite_cong))
theorem lPass_un (x : Run) : lPass x.un = (lPass x).un := rfl
theorem lJudge_un (x : Run) : lJudge x.un = (lJudge x).un := by unfold lJudge; dsimp only; simp only [usx]; simp only [lPass_un]; (repeat' (first | rfl | apply ite_cong))
theorem lStep_un (x : Run) : lStep x.un = (lStep x).un := by unfold lStep; dsimp only; simp only [usx]; simp only [lPass_un, lSettle_un, lJudge_un]; (repeat' (first | rfl | apply ite_cong))
theorem locateDo_un (x : Run) : locateDo x.un = (locateDo x).un := by unfold locateDo; simp only [lStep_un, hazardDo_un]; simp only [usx]; (repeat' (first | rfl | apply ite_cong))
theorem tdStep_un (x : Run) : tdStep x.un = (tdStep x).un := by unfold tdStep; dsimp only; simp only [usx]; (repeat' (first | rfl | apply ite_cong))
theorem ctStep_un (x : Run) : ctStep x.un = (ctStep x).un := by unfold ctStep; dsimp only; simp only [usx]; (repeat' (first | rfl | apply ite_cong))
theorem mvDown_un (x : Run) : mvDown x.un = (mvDown x).un := rfl
theorem mvWalk_un (x : Run) : mvWalk x.un = (mvWalk x).un := by unfold mvWalk; dsimp only; simp only [usx]; simp only [mvDown_un]; (repeat' (first | rfl | apply ite_cong))
theorem mvStep_un (x : Run) : mvStep x.un = (mvStep x).un := by unfold mvStep; dsimp only; simp only [usx]; simp only [mvDown_un, mvWalk_un]; (repeat' (first | rfl | apply ite_cong))
theorem liTake_un (x : Run) : liTake x.un = (liTake x).un := by unfold liTake; dsimp only; simp only [usx]; (repeat' (first | rfl | apply ite_cong))
theorem liLay_un (x : Run) : liLay x.un = (liLay x).un := by unfold liLay; dsimp only; simp only [usx]; (repeat' (first | rfl | apply ite_cong))
theorem liEnter_un (x : Run) : liEnter x.un = (liEnter x).un := by unfold liEnter; dsimp only; simp only [usx]; (repeat' (first | rfl | apply ite_cong))
theorem liClimb_un (x : Run) : liClimb x.un = (liClimb x).un := by unfold liClimb; dsimp only; simp only [usx]; (repeat' (first | rfl | apply ite_cong))
theorem liJoin_un (x : Run) : liJoin x.un = (liJoin x).un := by unfold liJoin; dsimp only; simp only [usx]; (repeat' (first | rfl | apply ite_cong))
theorem liStep_un (x : Run) : liStep x.un = (liStep x).un := by unfold liStep; simp only [liTake_un, liLay_un, liEnter_un, liClimb_un, liJoin_un]; simp only [usx]; (repeat' (first | rfl | apply ite_cong))
theorem lrLook_un (x : Run) : lrLook x.un = (lrLook x).un := by unfold lrLook; dsimp only; simp only [usx]; (repeat' (first | rfl | apply ite_cong))
theorem lrOn_un (x : Run) : lrOn x.un = (lrOn x).un := by unfold lrOn; dsimp only; simp only [usx]; (repeat' (first | rfl | apply ite_cong))
theorem lrTell_un (x : Run) : lrTell x.un = (lrTell x).un := by unfold lrTell; dsimp only; simp only [usx]; (repeat' (first | rfl | apply ite_cong))
theorem lrCut_un (x : Run) : lrCut x.un = (lrCut x).un := by unfold lrCut; dsimp only; simp only [usx]; (repeat' (first | rfl | apply ite_cong))
theorem lrStep_un (x : Run) : lrStep x.un = (lrStep x).un := by unfold lrStep; simp only [lrLook_un, lrOn_un, lrTell_un, lrCut_un]; simp only [usx]; (repeat' (first | rfl | apply ite_cong))
theorem lindenDo_un (x : Run) : lindenDo x.un = (lindenDo x).un := by unfold lindenDo; dsimp only; simp only [locateDo_un, liStep_un, tdStep_un, ctStep_un, mvStep_un, lrStep_un]; simp only [usx]; (repeat' (first | rfl | apply ite_cong))
theorem bits_un {d : Run → Run} (hd : ∀ x, d x.un = (d x).un) : ∀ (n : Nat) (x : Run), bits d n x.un = (bits d n x).map Run.un
  | 0, x => by
    unfold bits
    show (if (x.m.acted || x.t.fr.isEmpty) = true then _ else _) = _
    split <;> rfl
  | n + 1, x => by
    unfold bits
    show (if (x.m.acted || x.t.fr.isEmpty) = true then _ else _) = _
    split
    · rfl
    · rw [hd]; exact bits_un hd n (d x)
end Go.Proofs.YtglgifgoojncpaaGreat.Mod
end
namespace Go.Proofs.YtglgifgoojncpaaGreat
section
open Mod
theorem stepF_un {d : Run → Run} (hd : ∀ x : Run, d x.un = (d x).un) (x : Run) : stepF d x.un = (stepF d x).un := by
  by_cases h : ∃ z, ∃ n, Mod.bits d n x = some z
  · obtain ⟨z, n, hz⟩ := h
    have h2 : Mod.bits d n x.un = some z.un := by rw [bits_un hd, hz]; rfl
    rw [stepF_eq hz, stepF_eq h2]
  · have h2 : ¬ ∃ z, ∃ n, Mod.bits d n x.un = some z := by
      rintro ⟨z, n, hz⟩
      rw [bits_un hd] at hz
      cases hb : Mod.bits d n x with
      | none => rw [hb] at hz; cases hz
      | some y => exact h ⟨y, n, hb⟩
    unfold stepF
    rw [dif_neg h, dif_neg h2]
def DS.un (s : DS) : DS := { s with m := s.m.un }
theorem enter_un (ins : Int) (calls : List (List Cl)) (s : DS) (k : Nat) : s.un.enter ins calls k = (s.enter ins calls k).map DS.un := by
  unfold DS.enter
  show (if (thrAt s.m k).fr = [] then _ else _) = _
  split
  · show (if (calls.getD k []).length ≤ (s.nx.getD k 0).toNat then _ else _) = _
    split <;> rfl
  · rfl
theorem go_un {d : Run → Run} (hd : ∀ x : Run, d x.un = (d x).un) (s : DS) (k : Nat) : s.un.go d k = (s.go d k).un := by
  have e : stepF d ⟨s.un.m.quiet, thrAt s.un.m k, k⟩ = (stepF d ⟨s.m.quiet, thrAt s.m k, k⟩).un := stepF_un hd ⟨s.m.quiet, thrAt s.m k, k⟩
  unfold DS.go
  rw [e]
  generalize stepF d ⟨s.m.quiet, thrAt s.m k, k⟩ = z
  show (if z.t.fr = [] then _ else _) = _
  split <;> rfl
theorem pick_un {d : Run → Run} (hd : ∀ x : Run, d x.un = (d x).un) (ins : Int) (calls : List (List Cl)) (s : DS) (k : Int) : s.un.pick d ins calls k = (s.pick d ins calls k).un := by
  unfold DS.pick
  rw [enter_un]
  cases s.enter ins calls k.toNat with
  | none => rfl
  | some s1 => exact go_un hd s1 k.toNat
theorem fold_un {d : Run → Run} (hd : ∀ x : Run, d x.un = (d x).un) (ins : Int) (calls : List (List Cl)) : ∀ (picks : List Int) (s : DS), picks.foldl (fun s k => s.pick d ins calls k) s.un = (picks.foldl (fun s k => s.pick d ins calls k) s).un
  | [], s => rfl
  | k :: l, s => by
    simp only [List.foldl_cons]
    rw [pick_un hd]
    exact fold_un hd ins calls l _
theorem drive_un {d : Run → Run} (hd : ∀ x : Run, d x.un = (d x).un) (ins : Int) (calls : List (List Cl)) (c : Mod.Cf) (b : List Int) (picks : List Int) :
    (driveM d ins calls (macNew c b true) picks).ev = (driveM d ins calls (macNew c b false) picks).ev ∧ (driveM d ins calls (macNew c b true) picks).m.mm = (driveM d ins calls (macNew c b false) picks).m.mm := by
  have h : ∀ g, driveM d ins calls (macNew c b g).un picks = (driveM d ins calls (macNew c b g) picks).un := fun g => fold_un hd ins calls picks ⟨macNew c b g, List.replicate calls.length 0, List.replicate calls.length cl0, []⟩
  have e : (macNew c b true).un = (macNew c b false).un := rfl
  have h1 := h true
  have h2 := h false
  rw [e, h2] at h1
  constructor
  · have := congrArg DS.ev h1
    exact this.symm
  · have := congrArg (fun s : DS => s.m.mm) h1
    exact this.symm
end
section
set_option maxHeartbeats 1000000
open Mod
theorem eqv_ev (a0 : Int) (a1 : Bool) (a2 a3 a4 a5 a6 a7 b0 : Int) (b1 : Bool) (b2 b3 b4 b5 b6 b7 : Int) : eqv Tryz.prog 10000 59 (.agg #[.int .i64 a0, .bool a1, .int .i64 a2, .int .u32 a3, .int .u32 a4, .int .i64 a5, .int .u32 a6, .int .u32 a7]) (.agg #[.int .i64 b0, .bool b1, .int .i64 b2, .int .u32 b3, .int .u32 b4, .int .i64 b5, .int .u32 b6, .int .u32 b7]) = some ((a0 == b0) && ((a1 == b1) && (((a2 == b2) && ((a3 == b3) && ((a4 == b4) && true))) && (((a5 == b5) && ((a6 == b6) && ((a7 == b7) && true))) && true)))) := by kernel_rfl
theorem guard_ev : Tryz.prog.eqGuardType Tryz.prog.depth 59 = false := by kernel_rfl
theorem eqvH_ev {e : EvM} {F : Bool → Prop} (k : F true) : eqvH Tryz.prog 59 (.agg #[.int .i64 e.k, .bool e.back, .int .i64 e.c.op, .int .u32 e.c.key, .int .u32 e.c.val, .int .i64 e.a.op, .int .u32 e.a.key, .int .u32 e.a.val]) (.agg #[.int .i64 e.k, .bool e.back, .int .i64 e.c.op, .int .u32 e.c.key, .int .u32 e.c.val, .int .i64 e.a.op, .int .u32 e.a.key, .int .u32 e.a.val]) F := by
  unfold eqvH
  rw [guard_ev, if_neg (by simp)]
  show (match eqv Tryz.prog 10000 59 (.agg #[.int .i64 e.k, .bool e.back, .int .i64 e.c.op, .int .u32 e.c.key, .int .u32 e.c.val, .int .i64 e.a.op, .int .u32 e.a.key, .int .u32 e.a.val]) (.agg #[.int .i64 e.k, .bool e.back, .int .i64 e.c.op, .int .u32 e.c.key, .int .u32 e.c.val, .int .i64 e.a.op, .int .u32 e.a.key, .int .u32 e.a.val]) with | some b => F b | none => False)
  rw [eqv_ev]
  simpa using k
theorem steps_call {K : Value → Heap → Prop} {h : Heap} {R : Hp} {q : Nat} {m : Mm} (H : Sat h (memS q m * R)) (k : K (.int .i64 m.st) h) : CallH Tryz.prog 26 #[mP q] h K := by
  refine call26 ?_
  unfold F26 lI nP
  obtain ⟨b, la, lc, MB, H1⟩ := memS_iff.1 H
  try simp only [nilC, bsx, Nat.reduceAdd, Int.reduceLE, Int.reduceLT, Int.reduceToNat]
  refine H1.ld rfl ?_
  try simp only [nilC, bsx, Nat.reduceAdd, Int.reduceLE, Int.reduceLT, Int.reduceToNat]
  exact k
theorem mMem {K : Value → Heap → Prop} {h : Heap} {R : Hp} {M : Nat} {Ts : List Nat} {m : Mac} (H : Sat h (machS M Ts m * R)) (k : ∀ q R', Sat h (memS q m.mm * R') → K (mP q) h) : CallH Tryz.prog 24 #[mP M] h K := by
  obtain ⟨a, c, hl, H1⟩ := machS_iff.1 H
  exact mcMem_call H1 fun q R' HM _ => k q R' HM
theorem tail_call {K : Value → Heap → Prop} {h : Heap} {R : Hp} {A B M1 M2 : Nat} {T1 T2 : List Nat} {m1 m2 : Mac} {ea eb : Option Addr} {n ec ed : Nat} {es : List EvM} {o1 r1 o2 r2 : Bool} {z1 z2 : Int} (hn : es.length = n) (hm : m1.mm = m2.mm) (hn2 : n ≤ 1000000)
    (H : Sat h (pt A (.cells (playC ea n ec o1 r1 z1).toArray 56) * (pt B (.cells (playC eb n ed o2 r2 z2).toArray 56) * (ownS 59 8 ea n ec (es.flatMap evc) * (ownS 59 8 eb n ed (es.flatMap evc) * (machS M1 T1 m1 * (machS M2 T2 m2 * R)))))))
    (k : ∀ h', Sat h' R → K (.bool true) h') : blindTail K (some ⟨M1, 0, none⟩) (some ⟨M2, 0, none⟩) A B h := by
  unfold blindTail cf bd lS lI
  have sA := H.drop.drop.own.sees
  have sB := H.drop.drop.drop.own.sees
  refine ldR H.at rfl ?_
  try simp only [nilC, bsx, Nat.reduceAdd, Int.reduceLE, Int.reduceLT, Int.reduceToNat]
  refine ldR H.at2 rfl ?_
  try simp only [nilC, bsx, Nat.reduceAdd, Int.reduceLE, Int.reduceLT, Int.reduceToNat]
  refine ifB_mk (fun c => by simp at c) (fun _ => ?_)
  refine ⟨fun vs h' => ∃ (i : Nat) (w : Value), vs = [w, .int .i64 i] ∧ i ≤ n ∧ h' = h, fun vs _ => match vs with | [_, .int _ i] => ((n : Int) - i).toNat | _ => 0, ⟨0, _, rfl, Nat.zero_le _, rfl⟩, ?_⟩
  rintro v1 v2 g1 h1 ⟨i, w, e, hi, rfl⟩
  cases e
  try simp only [nilC, bsx, Nat.reduceAdd, Int.reduceLE, Int.reduceLT, Int.reduceToNat]
  refine ldR H.at rfl ?_
  try simp only [nilC, bsx, Nat.reduceAdd, Int.reduceLE, Int.reduceLT, Int.reduceToNat]
  refine ifB_dec (fun c => ?_) (fun c => ?_)
  · have hil : i < es.length := by omega
    have gg : ∀ j, j < 8 → ((es.flatMap evc))[i * 8 + j]? = (evc es[i])[j]? := fun j hj => flat_get evc_len hil hj
    have cA : ∀ j v, j < 8 → (evc es[i])[j]? = some v → ∃ ad, ea = some ad ∧ cellAt h1 (ad.add (i * 8 + j)) = some v := fun j v hj e => sA _ _ ((gg j hj).trans e)
    have cB : ∀ j v, j < 8 → (evc es[i])[j]? = some v → ∃ ad, eb = some ad ∧ cellAt h1 (ad.add (i * 8 + j)) = some v := fun j v hj e => sB _ _ ((gg j hj).trans e)
    obtain ⟨aa, ea0, _⟩ := cA 0 _ (by omega) rfl
    obtain ⟨ab, eb0, _⟩ := cB 0 _ (by omega) rfl
    subst ea0 eb0
    have cA2 : ∀ j v, j < 8 → (evc es[i])[j]? = some v → cellAt h1 (aa.add (i * 8 + j)) = some v := fun j v hj e => by
      obtain ⟨ad, e1, e2⟩ := cA j v hj e
      cases e1; exact e2
    have cB2 : ∀ j v, j < 8 → (evc es[i])[j]? = some v → cellAt h1 (ab.add (i * 8 + j)) = some v := fun j v hj e => by
      obtain ⟨ad, e1, e2⟩ := cB j v hj e
      cases e1; exact e2
    have ga : ∀ j, (aa.add (i * 8)).add j = aa.add (i * 8 + j) := fun j => add_add _ _ _
    have gb : ∀ j, (ab.add (i * 8)).add j = ab.add (i * 8 + j) := fun j => add_add _ _ _
    refine ldR H.at rfl ?_
    try simp only [nilC, bsx, Nat.reduceAdd, Int.reduceLE, Int.reduceLT, Int.reduceToNat]
    refine ⟨by omega, by omega, ?_⟩
    try simp only [nilC, bsx, Nat.reduceAdd, Int.reduceLE, Int.reduceLT, Int.reduceToNat, ga]
    refine ldH_mk (cA2 0 _ (by omega) rfl) (ldH_mk (cA2 1 _ (by omega) rfl) (ldH_mk (cA2 2 _ (by omega) rfl) (ldH_mk (cA2 3 _ (by omega) rfl) (ldH_mk (cA2 4 _ (by omega) rfl) (ldH_mk (cA2 5 _ (by omega) rfl) (ldH_mk (cA2 6 _ (by omega) rfl) (ldH_mk (cA2 7 _ (by omega) rfl) ?_)))))))
    refine ldR H.at2 rfl ?_
    try simp only [nilC, bsx, Nat.reduceAdd, Int.reduceLE, Int.reduceLT, Int.reduceToNat]
    refine ⟨by omega, by omega, ?_⟩
    try simp only [nilC, bsx, Nat.reduceAdd, Int.reduceLE, Int.reduceLT, Int.reduceToNat, gb]
    refine ldH_mk (cB2 0 _ (by omega) rfl) (ldH_mk (cB2 1 _ (by omega) rfl) (ldH_mk (cB2 2 _ (by omega) rfl) (ldH_mk (cB2 3 _ (by omega) rfl) (ldH_mk (cB2 4 _ (by omega) rfl) (ldH_mk (cB2 5 _ (by omega) rfl) (ldH_mk (cB2 6 _ (by omega) rfl) (ldH_mk (cB2 7 _ (by omega) rfl) ?_)))))))
    refine eqvH_ev ?_
    try simp only [nilC, bsx, Nat.reduceAdd, Int.reduceLE, Int.reduceLT, Int.reduceToNat]
    rw [show s64 ((i : Int) + 1) = ((i + 1 : Nat) : Int) from by unfold s64; omega]
    refine ⟨by first | exact ⟨i + 1, _, rfl, by omega, rfl⟩ | exact ⟨i + 1, _, rfl, by omega⟩, ?_⟩
    show ((n : Int) - ((i + 1 : Nat) : Int)).toNat < ((n : Int) - (i : Int)).toNat
    omega
  -- words and steps
  have HM := H.drop.drop.drop.drop
  have HM2 := HM.drop
  refine callV_fn (mMem HM fun q1 R1 HQ1 => ?_)
  have MB := memS_B HQ1
  try simp only [nilC, bsx, Nat.reduceAdd, Int.reduceLE, Int.reduceLT, Int.reduceToNat]
  refine callV_fn (words_call HQ1 fun h2 a2 c2 o2 fb2 own2 => ?_)
  have HM3 := own2 _ HM
  have HM4 := HM3.drop.drop
  try simp only [nilC, bsx, Nat.reduceAdd, Int.reduceLE, Int.reduceLT, Int.reduceToNat]
  refine callV_fn (mMem HM4 fun q2 R2 HQ2 => ?_)
  try simp only [nilC, bsx, Nat.reduceAdd, Int.reduceLE, Int.reduceLT, Int.reduceToNat]
  refine callV_fn (words_call HQ2 fun h3 a3 c3 o3 fb3 own3 => ?_)
  have HM5 := own3 _ HM3
  try simp only [nilC, bsx, Nat.reduceAdd, Int.reduceLE, Int.reduceLT, Int.reduceToNat]
  have hlw : m2.mm.w.length = m1.mm.w.length := by rw [hm]
  refine ⟨fun vs h' => vs = [.bool false] ∧ h' = h3, ?_, ?_⟩
  · refine ifB_mk (fun c => ?_) (fun _ => ?_)
    · rw [hlw] at c
      simp at c
    refine callV_fn (mMem HM5.drop.drop fun q3 R3 HQ3 => ?_)
    try simp only [nilC, bsx, Nat.reduceAdd, Int.reduceLE, Int.reduceLT, Int.reduceToNat]
    refine callV_fn (steps_call HQ3 ?_)
    try simp only [nilC, bsx, Nat.reduceAdd, Int.reduceLE, Int.reduceLT, Int.reduceToNat]
    refine callV_fn (mMem HM5.drop.drop.drop fun q4 R4 HQ4 => ?_)
    try simp only [nilC, bsx, Nat.reduceAdd, Int.reduceLE, Int.reduceLT, Int.reduceToNat]
    refine callV_fn (steps_call HQ4 ?_)
    try simp only [nilC, bsx, Nat.reduceAdd, Int.reduceLE, Int.reduceLT, Int.reduceToNat]
    rw [hm]
    simp
  rintro v3 g3 h4 ⟨e, rfl⟩
  cases e
  try simp only [nilC, bsx, Nat.reduceAdd, Int.reduceLE, Int.reduceLT, Int.reduceToNat]
  have s3 := HM5.own.sees
  have s2 := HM5.drop.own.sees
  have hw4 := MB.len
  refine ⟨fun vs h' => ∃ (i : Nat) (w : Value), vs = [w, .int .i64 i] ∧ i ≤ m1.mm.w.length ∧ h' = h4, fun vs _ => match vs with | [_, .int _ i] => ((m1.mm.w.length : Int) - i).toNat | _ => 0, ⟨0, _, rfl, Nat.zero_le _, rfl⟩, ?_⟩
  rintro v4 v5 g5 h5 ⟨i, w, e, hi, rfl⟩
  cases e
  try simp only [nilC, bsx, Nat.reduceAdd, Int.reduceLE, Int.reduceLT, Int.reduceToNat]
  refine ifB_dec (fun c => ?_) (fun c => ?_)
  · have hil : i < m1.mm.w.length := by omega
    have hil2 : i < m2.mm.w.length := by omega
    have hwe : m2.mm.w[i] = m1.mm.w[i] := by
      have : m2.mm.w = m1.mm.w := by rw [hm]
      simp only [this]
    obtain ⟨ad2, ea2, hc2⟩ := s2 i (.int .u64 m1.mm.w[i]) (by unfold uvs; rw [List.getElem?_map, List.getElem?_eq_getElem hil]; rfl)
    obtain ⟨ad3, ea3, hc3⟩ := s3 i (.int .u64 m2.mm.w[i]) (by unfold uvs; rw [List.getElem?_map, List.getElem?_eq_getElem hil2]; rfl)
    subst ea2 ea3
    refine ⟨by omega, by omega, ?_⟩
    try simp only [nilC, bsx, Nat.reduceAdd, Int.reduceLE, Int.reduceLT, Int.reduceToNat]
    refine ldH_mk hc2 ?_
    try simp only [nilC, bsx, Nat.reduceAdd, Int.reduceLE, Int.reduceLT, Int.reduceToNat]
    refine ⟨by omega, by omega, ?_⟩
    try simp only [nilC, bsx, Nat.reduceAdd, Int.reduceLE, Int.reduceLT, Int.reduceToNat]
    refine ldH_mk hc3 ?_
    try simp only [nilC, bsx, Nat.reduceAdd, Int.reduceLE, Int.reduceLT, Int.reduceToNat]
    rw [hwe]
    refine ifB_mk (fun c => by simp at c) (fun _ => ?_)
    rw [show s64 ((i : Int) + 1) = ((i + 1 : Nat) : Int) from by unfold s64; omega]
    refine ⟨by first | exact ⟨i + 1, _, rfl, by omega, rfl⟩ | exact ⟨i + 1, _, rfl, by omega⟩, ?_⟩
    show ((m1.mm.w.length : Int) - ((i + 1 : Nat) : Int)).toNat < ((m1.mm.w.length : Int) - (i : Int)).toNat
    omega
  · exact k _ HM5.drop.drop.drop.drop
end
end Go.Proofs.YtglgifgoojncpaaGreat
