/- Part 12 of what the proofs of this seat rest on: see the last text of the claim. -/
import Derived.Test.YtglgifgoojncpaaGreatQeb0caddcb5e2
set_option linter.unusedSimpArgs false
set_option linter.unusedVariables false
set_option linter.ambiguousOpen false
set_option maxRecDepth 20000
namespace Go.Proofs.YtglgifgoojncpaaGreat
section
open Mod
theorem f_m (x : Run) (m : Mac) : ({ x with m := m } : Run).f = x.f := rfl
theorem f_swing (x : Run) (a b c : Int) (d : Bool) : (x.swing a b c d).2.f = x.f := rfl
theorem f_swingM (x : Run) (a b c : Int) (d : Bool) : (x.swingM a b c d).2.f = x.f := rfl
theorem f_guard (x : Run) (a b : Int) : (x.guard a b).f = x.f := rfl
def MoOk (sl th : Int) (f : Frm) : Prop := HzOk sl th f ∨ f.r.length = 10 ∧ (f.fn = 10 ∧ 0 ≤ f.pc ∧ f.pc ≤ 1 ∨ f.fn = 11 ∧ (0 ≤ f.pc ∧ f.pc ≤ 14 ∨ f.pc = 90) ∨ (f.fn = 12 ∨ f.fn = 13) ∧ (0 ≤ f.pc ∧ f.pc ≤ 7 ∨ f.pc = 90) ∨ f.fn = 14 ∧ 0 ≤ f.pc ∧ f.pc ≤ 7)
theorem mo_new {sl th fn : Int} {l : List Int} (h : 1 ≤ fn ∧ fn ≤ 6 ∨ 10 ≤ fn ∧ fn ≤ 14) (hs : 0 ≤ sl) (ht : 0 ≤ sl * th) : MoOk sl th ⟨fn, 0, pad 10 l⟩ := by
  by_cases c : fn ≤ 6
  · exact .inl (hz_new (by omega) hs ht)
  · refine .inr ⟨pad_len _ _, ?_⟩
    dsimp only
    omega
theorem mo_hz {sl th : Int} {f : Frm} (h : MoOk sl th f) (e : ¬ (10 ≤ f.fn ∧ f.fn ≤ 14)) : HzOk sl th f := by
  unfold MoOk at h
  rcases h with h | ⟨_, h⟩
  · exact h
  · omega
theorem mo_up {sl th : Int} {f : Frm} (h : MoOk sl th f) (e : 10 ≤ f.fn ∧ f.fn ≤ 14) : f.r.length = 10 ∧ (f.fn = 10 ∧ 0 ≤ f.pc ∧ f.pc ≤ 1 ∨ f.fn = 11 ∧ (0 ≤ f.pc ∧ f.pc ≤ 14 ∨ f.pc = 90) ∨ (f.fn = 12 ∨ f.fn = 13) ∧ (0 ≤ f.pc ∧ f.pc ≤ 7 ∨ f.pc = 90) ∨ f.fn = 14 ∧ 0 ≤ f.pc ∧ f.pc ≤ 7) := by
  unfold MoOk HzOk at h
  rcases h with h | h
  · omega
  · exact h
section
variable {x : Run} {sl th : Int}
theorem mRead_All (h : AllF (MoOk sl th) x) (s0 : 0 ≤ sl) (t0 : 0 ≤ sl * th) (len : x.f.r.length = 10) (e : x.f.fn = 10) : AllF (MoOk sl th) (mRead x) := by
  have r := h.rest
  unfold mRead; dsimp only
  repeat' split
  all_goals ((repeat (with_reducible first | apply AllF.load | apply AllF.store | apply AllF.cas | apply AllF.add | apply AllF.swing | apply AllF.swingA | apply AllF.swingM | apply AllF.drop1 | apply AllF.guard | apply AllF.gh | apply AllF.fo | apply AllF.re | apply AllF.setPl)); first | with_reducible assumption | ((with_reducible first | apply Rest.pop | apply Rest.call | apply Rest.allPc | apply Rest.allS | apply Rest.fin); (focus (refine Lo.rest ?_ (by assumption); (with_reducible repeat' constructor)))))
  all_goals first | (with_reducible apply mo_new; omega; assumption; assumption) | ((try simp only [f_m, f_pc, f_s, f_load, f_store, f_cas, f_add, f_gh, f_drop1, f_swing, f_swingA, f_swingM, f_guard]); refine .inr ⟨?_, ?_⟩ <;> simp only [at_len, s_len, fn_at, fn_s, pc_at, pc_s, or_true, true_or, and_true, true_and] <;> omega)
theorem iTake_All (h : AllF (MoOk sl th) x) (s0 : 0 ≤ sl) (t0 : 0 ≤ sl * th) (len : x.f.r.length = 10) (e : x.f.fn = 11) : AllF (MoOk sl th) (iTake x) := by
  have r := h.rest
  unfold iTake; dsimp only
  repeat' split
  all_goals ((repeat (with_reducible first | apply AllF.load | apply AllF.store | apply AllF.cas | apply AllF.add | apply AllF.swing | apply AllF.swingA | apply AllF.swingM | apply AllF.drop1 | apply AllF.guard | apply AllF.gh | apply AllF.fo | apply AllF.re | apply AllF.setPl)); first | with_reducible assumption | ((with_reducible first | apply Rest.pop | apply Rest.call | apply Rest.allPc | apply Rest.allS | apply Rest.fin); (focus (refine Lo.rest ?_ (by assumption); (with_reducible repeat' constructor)))))
  all_goals first | (with_reducible apply mo_new; omega; assumption; assumption) | ((try simp only [f_m, f_pc, f_s, f_load, f_store, f_cas, f_add, f_gh, f_drop1, f_swing, f_swingA, f_swingM, f_guard]); refine .inr ⟨?_, ?_⟩ <;> simp only [at_len, s_len, fn_at, fn_s, pc_at, pc_s, or_true, true_or, and_true, true_and] <;> omega)
theorem iDrawing_All (h : AllF (MoOk sl th) x) (s0 : 0 ≤ sl) (t0 : 0 ≤ sl * th) (len : x.f.r.length = 10) (e : x.f.fn = 11) : AllF (MoOk sl th) (iDrawing x) := by
  have r := h.rest
  unfold iDrawing iKeep; dsimp only
  split
  · refine Rest.allPc (Rest.s (Rest.m (by (focus (refine Lo.rest ?_ (by assumption); (with_reducible repeat' constructor)))))) ?_
    ((try simp only [f_m, f_pc, f_s, f_load, f_store, f_cas, f_add, f_gh, f_drop1, f_swing, f_swingA, f_swingM, f_guard]); refine .inr ⟨?_, ?_⟩ <;> simp only [at_len, s_len, fn_at, fn_s, pc_at, pc_s, or_true, true_or, and_true, true_and] <;> omega)
  repeat' split
  all_goals first | (refine AllF.push ?_ (mo_new (by omega) s0 t0)) | skip
  all_goals ((repeat (with_reducible first | apply AllF.load | apply AllF.store | apply AllF.cas | apply AllF.add | apply AllF.swing | apply AllF.swingA | apply AllF.swingM | apply AllF.drop1 | apply AllF.guard | apply AllF.gh | apply AllF.fo | apply AllF.re | apply AllF.setPl)); first | with_reducible assumption | ((with_reducible first | apply Rest.pop | apply Rest.call | apply Rest.allPc | apply Rest.allS | apply Rest.fin); (focus (refine Lo.rest ?_ (by assumption); (with_reducible repeat' constructor)))))
  all_goals first | (with_reducible apply mo_new; omega; assumption; assumption) | ((try simp only [f_m, f_pc, f_s, f_load, f_store, f_cas, f_add, f_gh, f_drop1, f_swing, f_swingA, f_swingM, f_guard]); refine .inr ⟨?_, ?_⟩ <;> simp only [at_len, s_len, fn_at, fn_s, pc_at, pc_s, or_true, true_or, and_true, true_and] <;> omega)
theorem iFind_All (h : AllF (MoOk sl th) x) (s0 : 0 ≤ sl) (t0 : 0 ≤ sl * th) (len : x.f.r.length = 10) (e : x.f.fn = 11) : AllF (MoOk sl th) (iFind x) := by
  have r := h.rest
  unfold iFind iKeep; dsimp only
  repeat' split
  all_goals ((repeat (with_reducible first | apply AllF.load | apply AllF.store | apply AllF.cas | apply AllF.add | apply AllF.swing | apply AllF.swingA | apply AllF.swingM | apply AllF.drop1 | apply AllF.guard | apply AllF.gh | apply AllF.fo | apply AllF.re | apply AllF.setPl)); first | with_reducible assumption | ((with_reducible first | apply Rest.pop | apply Rest.call | apply Rest.allPc | apply Rest.allS | apply Rest.fin); (focus (refine Lo.rest ?_ (by assumption); (with_reducible repeat' constructor)))))
  all_goals first | (with_reducible apply mo_new; omega; assumption; assumption) | ((try simp only [f_m, f_pc, f_s, f_load, f_store, f_cas, f_add, f_gh, f_drop1, f_swing, f_swingA, f_swingM, f_guard]); refine .inr ⟨?_, ?_⟩ <;> simp only [at_len, s_len, fn_at, fn_s, pc_at, pc_s, or_true, true_or, and_true, true_and] <;> omega)
theorem iPut_All (h : AllF (MoOk sl th) x) (s0 : 0 ≤ sl) (t0 : 0 ≤ sl * th) (len : x.f.r.length = 10) (e : x.f.fn = 11) : AllF (MoOk sl th) (iPut x) := by
  have r := h.rest
  unfold iPut iDone; dsimp only
  repeat' split
  all_goals ((repeat (with_reducible first | apply AllF.load | apply AllF.store | apply AllF.cas | apply AllF.add | apply AllF.swing | apply AllF.swingA | apply AllF.swingM | apply AllF.drop1 | apply AllF.guard | apply AllF.gh | apply AllF.fo | apply AllF.re | apply AllF.setPl)); first | with_reducible assumption | ((with_reducible first | apply Rest.pop | apply Rest.call | apply Rest.allPc | apply Rest.allS | apply Rest.fin); (focus (refine Lo.rest ?_ (by assumption); (with_reducible repeat' constructor)))))
  all_goals first | (with_reducible apply mo_new; omega; assumption; assumption) | with_reducible exact Rest.m r | ((try simp only [f_m, f_pc, f_s, f_load, f_store, f_cas, f_add, f_gh, f_drop1, f_swing, f_swingA, f_swingM, f_guard]); refine .inr ⟨?_, ?_⟩ <;> simp only [at_len, s_len, fn_at, fn_s, pc_at, pc_s, or_true, true_or, and_true, true_and] <;> omega)
theorem iStep_All (h : AllF (MoOk sl th) x) (s0 : 0 ≤ sl) (t0 : 0 ≤ sl * th) (len : x.f.r.length = 10) (e : x.f.fn = 11) : AllF (MoOk sl th) (iStep x) := by
  unfold iStep
  repeat' split
  · exact iTake_All h s0 t0 len e
  · exact iDrawing_All h s0 t0 len e
  · exact iFind_All h s0 t0 len e
  · exact iPut_All h s0 t0 len e
theorem rLook_All (h : AllF (MoOk sl th) x) (s0 : 0 ≤ sl) (t0 : 0 ≤ sl * th) (len : x.f.r.length = 10) (e : x.f.fn = 12 ∨ x.f.fn = 13) : AllF (MoOk sl th) (rLook x) := by
  have r := h.rest
  unfold rLook; dsimp only
  repeat' split
  all_goals ((repeat (with_reducible first | apply AllF.load | apply AllF.store | apply AllF.cas | apply AllF.add | apply AllF.swing | apply AllF.swingA | apply AllF.swingM | apply AllF.drop1 | apply AllF.guard | apply AllF.gh | apply AllF.fo | apply AllF.re | apply AllF.setPl)); first | with_reducible assumption | ((with_reducible first | apply Rest.pop | apply Rest.call | apply Rest.allPc | apply Rest.allS | apply Rest.fin); (focus (refine Lo.rest ?_ (by assumption); (with_reducible repeat' constructor)))))
  all_goals first | (with_reducible apply mo_new; omega; assumption; assumption) | ((try simp only [f_m, f_pc, f_s, f_load, f_store, f_cas, f_add, f_gh, f_drop1, f_swing, f_swingA, f_swingM, f_guard]); refine .inr ⟨?_, ?_⟩ <;> simp only [at_len, s_len, fn_at, fn_s, pc_at, pc_s, or_true, true_or, and_true, true_and] <;> omega)
theorem rStep_All (h : AllF (MoOk sl th) x) (s0 : 0 ≤ sl) (t0 : 0 ≤ sl * th) (len : x.f.r.length = 10) (e : x.f.fn = 12 ∨ x.f.fn = 13) : AllF (MoOk sl th) (rStep x) := by
  have r := h.rest
  unfold rStep; dsimp only
  repeat' split
  all_goals first | exact rLook_All h s0 t0 len e | skip
  all_goals ((repeat (with_reducible first | apply AllF.load | apply AllF.store | apply AllF.cas | apply AllF.add | apply AllF.swing | apply AllF.swingA | apply AllF.swingM | apply AllF.drop1 | apply AllF.guard | apply AllF.gh | apply AllF.fo | apply AllF.re | apply AllF.setPl)); first | with_reducible assumption | ((with_reducible first | apply Rest.pop | apply Rest.call | apply Rest.allPc | apply Rest.allS | apply Rest.fin); (focus (refine Lo.rest ?_ (by assumption); (with_reducible repeat' constructor)))))
  all_goals first | (with_reducible apply mo_new; omega; assumption; assumption) | ((try simp only [f_m, f_pc, f_s, f_load, f_store, f_cas, f_add, f_gh, f_drop1, f_swing, f_swingA, f_swingM, f_guard]); refine .inr ⟨?_, ?_⟩ <;> simp only [at_len, s_len, fn_at, fn_s, pc_at, pc_s, or_true, true_or, and_true, true_and] <;> omega)
theorem cWash_All (h : AllF (MoOk sl th) x) (len : x.f.r.length = 10) (e : x.f.fn = 14) : AllF (MoOk sl th) (cWash x) := by
  have r := h.rest
  unfold cWash; dsimp only
  repeat' split
  all_goals ((repeat (with_reducible first | apply AllF.load | apply AllF.store | apply AllF.cas | apply AllF.add | apply AllF.swing | apply AllF.swingA | apply AllF.swingM | apply AllF.drop1 | apply AllF.guard | apply AllF.gh | apply AllF.fo | apply AllF.re | apply AllF.setPl)); first | with_reducible assumption | ((with_reducible first | apply Rest.pop | apply Rest.call | apply Rest.allPc | apply Rest.allS | apply Rest.fin); (focus (refine Lo.rest ?_ (by assumption); (with_reducible repeat' constructor)))))
  all_goals ((try simp only [f_m, f_pc, f_s, f_load, f_store, f_cas, f_add, f_gh, f_drop1, f_swing, f_swingA, f_swingM, f_guard]); refine .inr ⟨?_, ?_⟩ <;> simp only [at_len, s_len, fn_at, fn_s, pc_at, pc_s, or_true, true_or, and_true, true_and] <;> omega)
theorem cHere_All (h : AllF (MoOk sl th) x) (s0 : 0 ≤ sl) (t0 : 0 ≤ sl * th) (len : x.f.r.length = 10) (e : x.f.fn = 14) : AllF (MoOk sl th) (cHere x) := by
  have r := h.rest
  unfold cHere; dsimp only
  repeat' split
  all_goals first | exact cWash_All h len e | skip
  all_goals ((repeat (with_reducible first | apply AllF.load | apply AllF.store | apply AllF.cas | apply AllF.add | apply AllF.swing | apply AllF.swingA | apply AllF.swingM | apply AllF.drop1 | apply AllF.guard | apply AllF.gh | apply AllF.fo | apply AllF.re | apply AllF.setPl)); first | with_reducible assumption | ((with_reducible first | apply Rest.pop | apply Rest.call | apply Rest.allPc | apply Rest.allS | apply Rest.fin); (focus (refine Lo.rest ?_ (by assumption); (with_reducible repeat' constructor)))))
  all_goals first | (with_reducible apply mo_new; omega; assumption; assumption) | ((try simp only [f_m, f_pc, f_s, f_load, f_store, f_cas, f_add, f_gh, f_drop1, f_swing, f_swingA, f_swingM, f_guard]); refine .inr ⟨?_, ?_⟩ <;> simp only [at_len, s_len, fn_at, fn_s, pc_at, pc_s, or_true, true_or, and_true, true_and] <;> omega)
theorem cSwap_All {i : Nat} {p : Int} (h : AllF (MoOk sl th) x) (len : x.f.r.length = 10) (e : x.f.fn = 14) : AllF (MoOk sl th) (cSwap x i p) := by
  have r := h.rest
  unfold cSwap; dsimp only
  split
  · refine Rest.allS (Rest.m (by (focus (refine Lo.rest ?_ (by assumption); (with_reducible repeat' constructor))))) ?_
    ((try simp only [f_m, f_pc, f_s, f_load, f_store, f_cas, f_add, f_gh, f_drop1, f_swing, f_swingA, f_swingM, f_guard]); refine .inr ⟨?_, ?_⟩ <;> simp only [at_len, s_len, fn_at, fn_s, pc_at, pc_s, or_true, true_or, and_true, true_and] <;> omega)
  · refine AllF.m ?_
    ((repeat (with_reducible first | apply AllF.load | apply AllF.store | apply AllF.cas | apply AllF.add | apply AllF.swing | apply AllF.swingA | apply AllF.swingM | apply AllF.drop1 | apply AllF.guard | apply AllF.gh | apply AllF.fo | apply AllF.re | apply AllF.setPl)); first | with_reducible assumption | ((with_reducible first | apply Rest.pop | apply Rest.call | apply Rest.allPc | apply Rest.allS | apply Rest.fin); (focus (refine Lo.rest ?_ (by assumption); (with_reducible repeat' constructor)))))
    ((try simp only [f_m, f_pc, f_s, f_load, f_store, f_cas, f_add, f_gh, f_drop1, f_swing, f_swingA, f_swingM, f_guard]); refine .inr ⟨?_, ?_⟩ <;> simp only [at_len, s_len, fn_at, fn_s, pc_at, pc_s, or_true, true_or, and_true, true_and] <;> omega)
theorem cStep_All (h : AllF (MoOk sl th) x) (s0 : 0 ≤ sl) (t0 : 0 ≤ sl * th) (len : x.f.r.length = 10) (e : x.f.fn = 14) : AllF (MoOk sl th) (cStep x) := by
  have r := h.rest
  unfold cStep cChild; dsimp only
  repeat' split
  all_goals first | exact cHere_All h s0 t0 len e | exact cSwap_All h len e | exact cWash_All h len e | skip
  all_goals ((repeat (with_reducible first | apply AllF.load | apply AllF.store | apply AllF.cas | apply AllF.add | apply AllF.swing | apply AllF.swingA | apply AllF.swingM | apply AllF.drop1 | apply AllF.guard | apply AllF.gh | apply AllF.fo | apply AllF.re | apply AllF.setPl)); first | with_reducible assumption | ((with_reducible first | apply Rest.pop | apply Rest.call | apply Rest.allPc | apply Rest.allS | apply Rest.fin); (focus (refine Lo.rest ?_ (by assumption); (with_reducible repeat' constructor)))))
  all_goals first | (with_reducible apply mo_new; omega; assumption; assumption) | ((try simp only [f_m, f_pc, f_s, f_load, f_store, f_cas, f_add, f_gh, f_drop1, f_swing, f_swingA, f_swingM, f_guard]); refine .inr ⟨?_, ?_⟩ <;> simp only [at_len, s_len, fn_at, fn_s, pc_at, pc_s, or_true, true_or, and_true, true_and] <;> omega)
theorem moundDo_All (h : AllF (MoOk sl th) x) (hs : sl = x.m.p.slots) (ht : th = x.m.p.c.threads) (s0 : 0 ≤ sl) (t0 : 0 ≤ sl * th) (hne : x.t.fr ≠ []) : AllF (MoOk sl th) (moundDo x) := by
  have r := h.rest
  have o := h.top hne
  unfold moundDo
  rw [if_neg hne]
  dsimp only
  split
  · ((repeat (with_reducible first | apply AllF.load | apply AllF.store | apply AllF.cas | apply AllF.add | apply AllF.swing | apply AllF.swingA | apply AllF.swingM | apply AllF.drop1 | apply AllF.guard | apply AllF.gh | apply AllF.fo | apply AllF.re | apply AllF.setPl)); first | with_reducible assumption | ((with_reducible first | apply Rest.pop | apply Rest.call | apply Rest.allPc | apply Rest.allS | apply Rest.fin); (focus (refine Lo.rest ?_ (by assumption); (with_reducible repeat' constructor)))))
  split
  · exact mRead_All h s0 t0 (mo_up o (by omega)).1 (by assumption)
  split
  · exact iStep_All h s0 t0 (mo_up o (by omega)).1 (by assumption)
  split
  · exact rStep_All h s0 t0 (mo_up o (by omega)).1 (by assumption)
  split
  · exact cStep_All h s0 t0 (mo_up o (by omega)).1 (by assumption)
  · exact hazardDo_All (fun f hf => .inl hf) h hs ht s0 t0 (mo_hz o (by omega))
theorem mRead_Nx (hs : 0 < sl) (ha : 0 < sl * th) (hne : x.t.fr ≠ []) (h : Adj sl th x) (e : x.f.fn = 10) (hp : 0 ≤ x.f.pc ∧ x.f.pc ≤ 1) : Nx sl th x (mRead x) := by
  have r := h.r hne
  rw [e] at r
  unfold mRead; dsimp only
  split
  · (refine ⟨by ((with_reducible first | apply AdjR.pop | apply AdjR.allPc | apply AdjR.allS | apply AdjR.fin | apply AdjR.call | apply AdjR.all); (focus (refine Lo.adjR ?_ (by assumption); (with_reducible repeat' constructor))); try (first | decide | (refine .inr ?_; decide) | (refine .inl ?_; simp [fA]; done) | (refine Lo.ne ?_ hne; (with_reducible repeat' constructor)))), ?_⟩; first | (refine .inl ?_; (focus (refine Tch.act ?_; (with_reducible repeat' constructor))); done) | (refine .inr ?_; ((with_reducible first | apply AdjR.ltCall r hne | apply AdjR.ltFin r hne | apply AdjR.ltPc r hne | apply AdjR.ltPop r hne); assumption; (focus (refine Lo.adjR ?_ (by assumption); (with_reducible repeat' constructor))); try (first | assumption | exact ne_setF _ _)); simp +decide [fW, fA, hs]; first | done | omega))
  have e1 : x.f.pc = 1 := by omega
  split
  all_goals (refine ⟨by ((with_reducible first | apply AdjR.pop | apply AdjR.allPc | apply AdjR.allS | apply AdjR.fin | apply AdjR.call | apply AdjR.all); (focus (refine Lo.adjR ?_ (by assumption); (with_reducible repeat' constructor))); try (first | decide | (refine .inr ?_; decide) | (refine .inl ?_; simp [fA]; done) | (refine Lo.ne ?_ hne; (with_reducible repeat' constructor)))), ?_⟩; first | (refine .inl ?_; (focus (refine Tch.act ?_; (with_reducible repeat' constructor))); done) | (refine .inr ?_; ((with_reducible first | apply AdjR.ltCall r hne | apply AdjR.ltFin r hne | apply AdjR.ltPc r hne | apply AdjR.ltPop r hne); assumption; (focus (refine Lo.adjR ?_ (by assumption); (with_reducible repeat' constructor))); try (first | assumption | exact ne_setF _ _)); simp +decide [fW, fA, hs]; first | done | omega))
theorem iTake_Nx (hs : 0 < sl) (ha : 0 < sl * th) (hne : x.t.fr ≠ []) (h : Adj sl th x) (e : x.f.fn = 11) (hp : 0 ≤ x.f.pc ∧ x.f.pc ≤ 3) : Nx sl th x (iTake x) := by
  have r := h.r hne
  rw [e] at r
  unfold iTake; dsimp only
  repeat' split
  all_goals (refine ⟨by ((with_reducible first | apply AdjR.pop | apply AdjR.allPc | apply AdjR.allS | apply AdjR.fin | apply AdjR.call | apply AdjR.all); (focus (refine Lo.adjR ?_ (by assumption); (with_reducible repeat' constructor))); try (first | decide | (refine .inr ?_; decide) | (refine .inl ?_; simp [fA]; done) | (refine Lo.ne ?_ hne; (with_reducible repeat' constructor)))), ?_⟩; first | (refine .inl ?_; (focus (refine Tch.act ?_; (with_reducible repeat' constructor))); done) | (refine .inr ?_; ((with_reducible first | apply AdjR.ltCall r hne | apply AdjR.ltFin r hne | apply AdjR.ltPc r hne | apply AdjR.ltPop r hne); assumption; (focus (refine Lo.adjR ?_ (by assumption); (with_reducible repeat' constructor))); try (first | assumption | exact ne_setF _ _)); simp +decide [fW, fA, hs, ha]; first | done | omega))
theorem iDrawing_Nx (hs : 0 < sl) (ha : 0 < sl * th) (hne : x.t.fr ≠ []) (h : Adj sl th x) (e : x.f.fn = 11) (hp : 4 ≤ x.f.pc ∧ x.f.pc ≤ 7) : Nx sl th x (iDrawing x) := by
  have r := h.r hne
  rw [e] at r
  unfold iDrawing iKeep; dsimp only
  split
  · (refine ⟨by ((with_reducible first | apply AdjR.pop | apply AdjR.allPc | apply AdjR.allS | apply AdjR.fin | apply AdjR.call | apply AdjR.all); (focus (refine Lo.adjR ?_ (by assumption); (with_reducible repeat' constructor))); try (first | decide | (refine .inr ?_; decide) | (refine .inl ?_; simp [fA]; done) | (refine Lo.ne ?_ hne; (with_reducible repeat' constructor)))), ?_⟩; first | (refine .inl ?_; (focus (refine Tch.act ?_; (with_reducible repeat' constructor))); done) | (refine .inr ?_; ((with_reducible first | apply AdjR.ltCall r hne | apply AdjR.ltFin r hne | apply AdjR.ltPc r hne | apply AdjR.ltPop r hne); assumption; (focus (refine Lo.adjR ?_ (by assumption); (with_reducible repeat' constructor))); try (first | assumption | exact ne_setF _ _)); simp +decide [fW, fA, hs, ha]; first | done | omega))
  split
  · (refine ⟨by ((with_reducible first | apply AdjR.pop | apply AdjR.allPc | apply AdjR.allS | apply AdjR.fin | apply AdjR.call | apply AdjR.all); (focus (refine Lo.adjR ?_ (by assumption); (with_reducible repeat' constructor))); try (first | decide | (refine .inr ?_; decide) | (refine .inl ?_; simp [fA]; done) | (refine Lo.ne ?_ hne; (with_reducible repeat' constructor)))), ?_⟩; first | (refine .inl ?_; (focus (refine Tch.act ?_; (with_reducible repeat' constructor))); done) | (refine .inr ?_; ((with_reducible first | apply AdjR.ltCall r hne | apply AdjR.ltFin r hne | apply AdjR.ltPc r hne | apply AdjR.ltPop r hne); assumption; (focus (refine Lo.adjR ?_ (by assumption); (with_reducible repeat' constructor))); try (first | assumption | exact ne_setF _ _)); simp +decide [fW, fA, hs]; first | done | omega))
  split
  · split
    · (refine ⟨by ((with_reducible first | apply AdjR.pop | apply AdjR.allPc | apply AdjR.allS | apply AdjR.fin | apply AdjR.call | apply AdjR.all); (focus (refine Lo.adjR ?_ (by assumption); (with_reducible repeat' constructor))); try (first | decide | (refine .inr ?_; decide) | (refine .inl ?_; simp [fA]; done) | (refine Lo.ne ?_ hne; (with_reducible repeat' constructor)))), ?_⟩; first | (refine .inl ?_; (focus (refine Tch.act ?_; (with_reducible repeat' constructor))); done) | (refine .inr ?_; ((with_reducible first | apply AdjR.ltCall r hne | apply AdjR.ltFin r hne | apply AdjR.ltPc r hne | apply AdjR.ltPop r hne); assumption; (focus (refine Lo.adjR ?_ (by assumption); (with_reducible repeat' constructor))); try (first | assumption | exact ne_setF _ _)); simp +decide [fW, fA, hs]; first | done | omega))
    · split
      all_goals (refine ⟨by ((with_reducible first | apply AdjR.pop | apply AdjR.allPc | apply AdjR.allS | apply AdjR.fin | apply AdjR.call | apply AdjR.all); (focus (refine Lo.adjR ?_ (by assumption); (with_reducible repeat' constructor))); try (first | decide | (refine .inr ?_; decide) | (refine .inl ?_; simp [fA]; done) | (refine Lo.ne ?_ hne; (with_reducible repeat' constructor)))), ?_⟩; first | (refine .inl ?_; (focus (refine Tch.act ?_; (with_reducible repeat' constructor))); done) | (refine .inr ?_; ((with_reducible first | apply AdjR.ltCall r hne | apply AdjR.ltFin r hne | apply AdjR.ltPc r hne | apply AdjR.ltPop r hne); assumption; (focus (refine Lo.adjR ?_ (by assumption); (with_reducible repeat' constructor))); try (first | assumption | exact ne_setF _ _)); simp +decide [fW, fA, hs]; first | done | omega))
  have e1 : x.f.pc = 7 := by omega
  split
  · have ra : AdjR sl th 4 (((((x.s 7 1).s 8 0).s 9 0).pc 90).f :: rst x) (x.fin 1 0 0) := by
      have h1 : Adj sl th (((((x.s 7 1).s 8 0).s 9 0).pc 90)) := (r.s.s.s).allPc
      have h2 := h1.a
      rw [show (((((x.s 7 1).s 8 0).s 9 0).pc 90)).t.fr.reverse = (((((x.s 7 1).s 8 0).s 9 0).pc 90)).f :: rst (((((x.s 7 1).s 8 0).s 9 0).pc 90)) from fr_rev (ne_setF _ _)] at h2
      have er : rst ((((x.s 7 1).s 8 0).s 9 0).pc 90) = rst x := (r.s.s.s).pc.e
      have er2 : rst (x.fin 1 0 0) = (((((x.s 7 1).s 8 0).s 9 0).pc 90).f :: rst x) := by
        show ((((((x.s 7 1).s 8 0).s 9 0).pc 90).t.fr ++ [(⟨4, 0, pad 10 []⟩ : Frm)]).dropLast).reverse = _
        rw [List.dropLast_concat, show (((((x.s 7 1).s 8 0).s 9 0).pc 90)).t.fr.reverse = (((((x.s 7 1).s 8 0).s 9 0).pc 90)).f :: rst (((((x.s 7 1).s 8 0).s 9 0).pc 90)) from fr_rev (ne_setF _ _)]
        exact congrArg _ er
      refine ⟨?_, er2, ?_, ?_⟩
      · show ((((((x.s 7 1).s 8 0).s 9 0).pc 90).t.fr ++ [(⟨4, 0, pad 10 []⟩ : Frm)]).getLast?.getD dfF).fn = 4
        simp
      · refine .inr ?_
        rw [(r.s.s.s).pc.f]
        decide
      · rw [← er]; exact h2
    have hn : (x.fin 1 0 0).t.fr ≠ [] := by
      show (((((x.s 7 1).s 8 0).s 9 0).pc 90).t.fr ++ [_]) ≠ []
      simp
    refine ⟨Adj.push (ra.all hn) ?_, .inr ?_⟩
    · rw [fr_rev hn]
      refine .inl ?_
      show fA sl th (x.fin 1 0 0).f.fn (x.fin 1 0 0).f.pc = true
      rw [ra.f]
      have : (x.fin 1 0 0).f.pc = 0 := by
        show ((((((x.s 7 1).s 8 0).s 9 0).pc 90).t.fr ++ [(⟨4, 0, pad 10 []⟩ : Frm)]).getLast?.getD dfF).pc = 0
        simp
      rw [this]
      simp [fA, hs]
    · have hpf : (x.fin 1 0 0).f.pc = 0 := by
        show ((((((x.s 7 1).s 8 0).s 9 0).pc 90).t.fr ++ [(⟨4, 0, pad 10 []⟩ : Frm)]).getLast?.getD dfF).pc = 0
        simp
      rw [mu_push, ra.mu hn hpf, r.mu hne e1]
      simp [fW, fA, hs]
  · (refine ⟨by ((with_reducible first | apply AdjR.pop | apply AdjR.allPc | apply AdjR.allS | apply AdjR.fin | apply AdjR.call | apply AdjR.all); (focus (refine Lo.adjR ?_ (by assumption); (with_reducible repeat' constructor))); try (first | decide | (refine .inr ?_; decide) | (refine .inl ?_; simp [fA]; done) | (refine Lo.ne ?_ hne; (with_reducible repeat' constructor)))), ?_⟩; first | (refine .inl ?_; (focus (refine Tch.act ?_; (with_reducible repeat' constructor))); done) | (refine .inr ?_; ((with_reducible first | apply AdjR.ltCall r hne | apply AdjR.ltFin r hne | apply AdjR.ltPc r hne | apply AdjR.ltPop r hne); assumption; (focus (refine Lo.adjR ?_ (by assumption); (with_reducible repeat' constructor))); try (first | assumption | exact ne_setF _ _)); simp +decide [fW, fA, hs]; first | done | omega))
theorem iFind_Nx (hs : 0 < sl) (ha : 0 < sl * th) (hne : x.t.fr ≠ []) (h : Adj sl th x) (e : x.f.fn = 11) (hp : 8 ≤ x.f.pc ∧ x.f.pc ≤ 9) : Nx sl th x (iFind x) := by
  have r := h.r hne
  rw [e] at r
  unfold iFind iKeep; dsimp only
  split
  · split
    all_goals (refine ⟨by ((with_reducible first | apply AdjR.pop | apply AdjR.allPc | apply AdjR.allS | apply AdjR.fin | apply AdjR.call | apply AdjR.all); (focus (refine Lo.adjR ?_ (by assumption); (with_reducible repeat' constructor))); try (first | decide | (refine .inr ?_; decide) | (refine .inl ?_; simp [fA]; done) | (refine Lo.ne ?_ hne; (with_reducible repeat' constructor)))), ?_⟩; first | (refine .inl ?_; (focus (refine Tch.act ?_; (with_reducible repeat' constructor))); done) | (refine .inr ?_; ((with_reducible first | apply AdjR.ltCall r hne | apply AdjR.ltFin r hne | apply AdjR.ltPc r hne | apply AdjR.ltPop r hne); assumption; (focus (refine Lo.adjR ?_ (by assumption); (with_reducible repeat' constructor))); try (first | assumption | exact ne_setF _ _)); simp +decide [fW, fA, hs]; first | done | omega))
  have e1 : x.f.pc = 9 := by omega
  (refine ⟨by ((with_reducible first | apply AdjR.pop | apply AdjR.allPc | apply AdjR.allS | apply AdjR.fin | apply AdjR.call | apply AdjR.all); (focus (refine Lo.adjR ?_ (by assumption); (with_reducible repeat' constructor))); try (first | decide | (refine .inr ?_; decide) | (refine .inl ?_; simp [fA]; done) | (refine Lo.ne ?_ hne; (with_reducible repeat' constructor)))), ?_⟩; first | (refine .inl ?_; (focus (refine Tch.act ?_; (with_reducible repeat' constructor))); done) | (refine .inr ?_; ((with_reducible first | apply AdjR.ltCall r hne | apply AdjR.ltFin r hne | apply AdjR.ltPc r hne | apply AdjR.ltPop r hne); assumption; (focus (refine Lo.adjR ?_ (by assumption); (with_reducible repeat' constructor))); try (first | assumption | exact ne_setF _ _)); simp +decide [fW, fA, hs]; first | done | omega))
theorem iPut_Nx (hs : 0 < sl) (ha : 0 < sl * th) (hne : x.t.fr ≠ []) (h : Adj sl th x) (e : x.f.fn = 11) (hp : 10 ≤ x.f.pc ∧ x.f.pc ≤ 14) : Nx sl th x (iPut x) := by
  have r := h.r hne
  rw [e] at r
  unfold iPut iDone; dsimp only
  repeat' split
  all_goals first | (refine ⟨by ((with_reducible first | apply AdjR.pop | apply AdjR.allPc | apply AdjR.allS | apply AdjR.fin | apply AdjR.call | apply AdjR.all); (focus (refine Lo.adjR ?_ (by assumption); (with_reducible repeat' constructor))); try (first | decide | (refine .inr ?_; decide) | (refine .inl ?_; simp [fA]; done) | (refine Lo.ne ?_ hne; (with_reducible repeat' constructor)))), ?_⟩; first | (refine .inl ?_; (focus (refine Tch.act ?_; (with_reducible repeat' constructor))); done) | (refine .inr ?_; ((with_reducible first | apply AdjR.ltCall r hne | apply AdjR.ltFin r hne | apply AdjR.ltPc r hne | apply AdjR.ltPop r hne); assumption; (focus (refine Lo.adjR ?_ (by assumption); (with_reducible repeat' constructor))); try (first | assumption | exact ne_setF _ _)); simp +decide [fW, fA, hs, ha]; first | done | omega)) | omega | contradiction
theorem iStep_Nx (hs : 0 < sl) (ha : 0 < sl * th) (hne : x.t.fr ≠ []) (h : Adj sl th x) (e : x.f.fn = 11) (hp : 0 ≤ x.f.pc ∧ x.f.pc ≤ 14) : Nx sl th x (iStep x) := by
  unfold iStep
  repeat' split
  · exact iTake_Nx hs ha hne h e (by omega)
  · exact iDrawing_Nx hs ha hne h e (by omega)
  · exact iFind_Nx hs ha hne h e (by omega)
  · exact iPut_Nx hs ha hne h e (by omega)
theorem rLook12_Nx (hs : 0 < sl) (ha : 0 < sl * th) (hne : x.t.fr ≠ []) (h : Adj sl th x) (e : x.f.fn = 12) (hp : 0 ≤ x.f.pc ∧ x.f.pc ≤ 3) : Nx sl th x (rLook x) := by
  have r := h.r hne
  rw [e] at r
  unfold rLook; dsimp only
  repeat' split
  all_goals first | (refine ⟨by ((with_reducible first | apply AdjR.pop | apply AdjR.allPc | apply AdjR.allS | apply AdjR.fin | apply AdjR.call | apply AdjR.all); (focus (refine Lo.adjR ?_ (by assumption); (with_reducible repeat' constructor))); try (first | decide | (refine .inr ?_; decide) | (refine .inl ?_; simp [fA]; done) | (refine Lo.ne ?_ hne; (with_reducible repeat' constructor)))), ?_⟩; first | (refine .inl ?_; (focus (refine Tch.act ?_; (with_reducible repeat' constructor))); done) | (refine .inr ?_; ((with_reducible first | apply AdjR.ltCall r hne | apply AdjR.ltFin r hne | apply AdjR.ltPc r hne | apply AdjR.ltPop r hne); assumption; (focus (refine Lo.adjR ?_ (by assumption); (with_reducible repeat' constructor))); try (first | assumption | exact ne_setF _ _)); simp +decide [fW, fA, hs, ha]; first | done | omega)) | omega
theorem rLook13_Nx (hs : 0 < sl) (ha : 0 < sl * th) (hne : x.t.fr ≠ []) (h : Adj sl th x) (e : x.f.fn = 13) (hp : 0 ≤ x.f.pc ∧ x.f.pc ≤ 3) : Nx sl th x (rLook x) := by
  have r := h.r hne
  rw [e] at r
  unfold rLook; dsimp only
  repeat' split
  all_goals first | (refine ⟨by ((with_reducible first | apply AdjR.pop | apply AdjR.allPc | apply AdjR.allS | apply AdjR.fin | apply AdjR.call | apply AdjR.all); (focus (refine Lo.adjR ?_ (by assumption); (with_reducible repeat' constructor))); try (first | decide | (refine .inr ?_; decide) | (refine .inl ?_; simp [fA]; done) | (refine Lo.ne ?_ hne; (with_reducible repeat' constructor)))), ?_⟩; first | (refine .inl ?_; (focus (refine Tch.act ?_; (with_reducible repeat' constructor))); done) | (refine .inr ?_; ((with_reducible first | apply AdjR.ltCall r hne | apply AdjR.ltFin r hne | apply AdjR.ltPc r hne | apply AdjR.ltPop r hne); assumption; (focus (refine Lo.adjR ?_ (by assumption); (with_reducible repeat' constructor))); try (first | assumption | exact ne_setF _ _)); simp +decide [fW, fA, hs, ha]; first | done | omega)) | omega
theorem rStep12_Nx (hs : 0 < sl) (ha : 0 < sl * th) (hne : x.t.fr ≠ []) (h : Adj sl th x) (e : x.f.fn = 12) (hp : 0 ≤ x.f.pc ∧ x.f.pc ≤ 7) : Nx sl th x (rStep x) := by
  have r := h.r hne
  rw [e] at r
  unfold rStep; dsimp only
  repeat' split
  all_goals first | (refine ⟨by ((with_reducible first | apply AdjR.pop | apply AdjR.allPc | apply AdjR.allS | apply AdjR.fin | apply AdjR.call | apply AdjR.all); (focus (refine Lo.adjR ?_ (by assumption); (with_reducible repeat' constructor))); try (first | decide | (refine .inr ?_; decide) | (refine .inl ?_; simp [fA]; done) | (refine Lo.ne ?_ hne; (with_reducible repeat' constructor)))), ?_⟩; first | (refine .inl ?_; (focus (refine Tch.act ?_; (with_reducible repeat' constructor))); done) | (refine .inr ?_; ((with_reducible first | apply AdjR.ltCall r hne | apply AdjR.ltFin r hne | apply AdjR.ltPc r hne | apply AdjR.ltPop r hne); assumption; (focus (refine Lo.adjR ?_ (by assumption); (with_reducible repeat' constructor))); try (first | assumption | exact ne_setF _ _)); simp +decide [fW, fA, hs, ha]; first | done | omega)) | exact rLook12_Nx hs ha hne h e (by omega)
theorem rStep13_Nx (hs : 0 < sl) (ha : 0 < sl * th) (hne : x.t.fr ≠ []) (h : Adj sl th x) (e : x.f.fn = 13) (hp : 0 ≤ x.f.pc ∧ x.f.pc ≤ 7) : Nx sl th x (rStep x) := by
  have r := h.r hne
  rw [e] at r
  unfold rStep; dsimp only
  repeat' split
  all_goals first | (refine ⟨by ((with_reducible first | apply AdjR.pop | apply AdjR.allPc | apply AdjR.allS | apply AdjR.fin | apply AdjR.call | apply AdjR.all); (focus (refine Lo.adjR ?_ (by assumption); (with_reducible repeat' constructor))); try (first | decide | (refine .inr ?_; decide) | (refine .inl ?_; simp [fA]; done) | (refine Lo.ne ?_ hne; (with_reducible repeat' constructor)))), ?_⟩; first | (refine .inl ?_; (focus (refine Tch.act ?_; (with_reducible repeat' constructor))); done) | (refine .inr ?_; ((with_reducible first | apply AdjR.ltCall r hne | apply AdjR.ltFin r hne | apply AdjR.ltPc r hne | apply AdjR.ltPop r hne); assumption; (focus (refine Lo.adjR ?_ (by assumption); (with_reducible repeat' constructor))); try (first | assumption | exact ne_setF _ _)); simp +decide [fW, fA, hs, ha]; first | done | omega)) | exact rLook13_Nx hs ha hne h e (by omega)
theorem cWash_Nx (hs : 0 < sl) (hne : x.t.fr ≠ []) (h : Adj sl th x) (e : x.f.fn = 14) : Nx sl th x (cWash x) := by
  have r := h.r hne
  rw [e] at r
  unfold cWash; dsimp only
  repeat' split
  all_goals (refine ⟨by ((with_reducible first | apply AdjR.pop | apply AdjR.allPc | apply AdjR.allS | apply AdjR.fin | apply AdjR.call | apply AdjR.all); (focus (refine Lo.adjR ?_ (by assumption); (with_reducible repeat' constructor))); try (first | decide | (refine .inr ?_; decide) | (refine .inl ?_; simp [fA]; done) | (refine Lo.ne ?_ hne; (with_reducible repeat' constructor)))), ?_⟩; first | (refine .inl ?_; (focus (refine Tch.act ?_; (with_reducible repeat' constructor))); done) | (refine .inr ?_; ((with_reducible first | apply AdjR.ltCall r hne | apply AdjR.ltFin r hne | apply AdjR.ltPc r hne | apply AdjR.ltPop r hne); assumption; (focus (refine Lo.adjR ?_ (by assumption); (with_reducible repeat' constructor))); try (first | assumption | exact ne_setF _ _)); simp +decide [fW, fA, hs]; first | done | omega))
theorem cHere_Nx (hs : 0 < sl) (ha : 0 < sl * th) (hne : x.t.fr ≠ []) (h : Adj sl th x) (e : x.f.fn = 14) (hp : 0 ≤ x.f.pc ∧ x.f.pc ≤ 3) : Nx sl th x (cHere x) := by
  have r := h.r hne
  rw [e] at r
  unfold cHere; dsimp only
  repeat' split
  all_goals first | (refine ⟨by ((with_reducible first | apply AdjR.pop | apply AdjR.allPc | apply AdjR.allS | apply AdjR.fin | apply AdjR.call | apply AdjR.all); (focus (refine Lo.adjR ?_ (by assumption); (with_reducible repeat' constructor))); try (first | decide | (refine .inr ?_; decide) | (refine .inl ?_; simp [fA]; done) | (refine Lo.ne ?_ hne; (with_reducible repeat' constructor)))), ?_⟩; first | (refine .inl ?_; (focus (refine Tch.act ?_; (with_reducible repeat' constructor))); done) | (refine .inr ?_; ((with_reducible first | apply AdjR.ltCall r hne | apply AdjR.ltFin r hne | apply AdjR.ltPc r hne | apply AdjR.ltPop r hne); assumption; (focus (refine Lo.adjR ?_ (by assumption); (with_reducible repeat' constructor))); try (first | assumption | exact ne_setF _ _)); simp +decide [fW, fA, hs]; first | done | omega)) | exact cWash_Nx hs hne h e | omega
theorem cSwap_Nx {i : Nat} {p : Int} (hs : 0 < sl) (ha : 0 < sl * th) (hne : x.t.fr ≠ []) (h : Adj sl th x) (e : x.f.fn = 14) : Nx sl th x (cSwap x i p) := by
  have r := h.r hne
  rw [e] at r
  unfold cSwap; dsimp only
  split
  all_goals (refine ⟨by ((with_reducible first | apply AdjR.pop | apply AdjR.allPc | apply AdjR.allS | apply AdjR.fin | apply AdjR.call | apply AdjR.all); (focus (refine Lo.adjR ?_ (by assumption); (with_reducible repeat' constructor))); try (first | decide | (refine .inr ?_; decide) | (refine .inl ?_; simp [fA]; done) | (refine Lo.ne ?_ hne; (with_reducible repeat' constructor)))), ?_⟩; first | (refine .inl ?_; (focus (refine Tch.act ?_; (with_reducible repeat' constructor))); done) | (refine .inr ?_; ((with_reducible first | apply AdjR.ltCall r hne | apply AdjR.ltFin r hne | apply AdjR.ltPc r hne | apply AdjR.ltPop r hne); assumption; (focus (refine Lo.adjR ?_ (by assumption); (with_reducible repeat' constructor))); try (first | assumption | exact ne_setF _ _)); simp +decide [fW, fA, hs, ha]; first | done | omega))
theorem cStep_Nx (hs : 0 < sl) (ha : 0 < sl * th) (hne : x.t.fr ≠ []) (h : Adj sl th x) (e : x.f.fn = 14) (hp : 0 ≤ x.f.pc ∧ x.f.pc ≤ 7) : Nx sl th x (cStep x) := by
  have r := h.r hne
  rw [e] at r
  unfold cStep cChild; dsimp only
  repeat' split
  all_goals first | (refine ⟨by ((with_reducible first | apply AdjR.pop | apply AdjR.allPc | apply AdjR.allS | apply AdjR.fin | apply AdjR.call | apply AdjR.all); (focus (refine Lo.adjR ?_ (by assumption); (with_reducible repeat' constructor))); try (first | decide | (refine .inr ?_; decide) | (refine .inl ?_; simp [fA]; done) | (refine Lo.ne ?_ hne; (with_reducible repeat' constructor)))), ?_⟩; first | (refine .inl ?_; (focus (refine Tch.act ?_; (with_reducible repeat' constructor))); done) | (refine .inr ?_; ((with_reducible first | apply AdjR.ltCall r hne | apply AdjR.ltFin r hne | apply AdjR.ltPc r hne | apply AdjR.ltPop r hne); assumption; (focus (refine Lo.adjR ?_ (by assumption); (with_reducible repeat' constructor))); try (first | assumption | exact ne_setF _ _)); simp +decide [fW, fA, hs]; first | done | omega)) | exact cHere_Nx hs ha hne h e (by omega) | exact cSwap_Nx hs ha hne h e | exact cWash_Nx hs hne h e | contradiction
theorem mo_rng {f : Frm} (o : MoOk sl th f) : (1 ≤ f.fn ∧ f.fn ≤ 6) ∨ f.fn = 10 ∧ 0 ≤ f.pc ∧ f.pc ≤ 1 ∨ f.fn = 11 ∧ (0 ≤ f.pc ∧ f.pc ≤ 14 ∨ f.pc = 90) ∨ (f.fn = 12 ∨ f.fn = 13) ∧ (0 ≤ f.pc ∧ f.pc ≤ 7 ∨ f.pc = 90) ∨ f.fn = 14 ∧ 0 ≤ f.pc ∧ f.pc ≤ 7 := by
  unfold MoOk HzOk at o
  omega
theorem moundDo_Nx (hsl : sl = x.m.p.slots) (hth : th = x.m.p.c.threads) (hs : 0 < sl) (ha : 0 < sl * th) (hne : x.t.fr ≠ []) (h : Adj sl th x) (o : MoOk sl th x.f) : Nx sl th x (moundDo x) := by
  have o1 := mo_rng o
  have r := h.r hne
  unfold moundDo
  rw [if_neg hne]
  dsimp only
  split
  · rename_i c
    refine ⟨r.pop, .inr (AdjR.ltPop r hne c.1 r hne ?_)⟩
    have c2 : fA sl th x.f.fn 90 = false := by
      have : x.f.fn = 11 ∨ x.f.fn = 12 ∨ x.f.fn = 13 := by omega
      rcases this with e | e | e <;> rw [e] <;> simp [fA]
    rw [c2]
    have := (fW_rng x.f.fn 90).1
    simp
    omega
  split
  · exact mRead_Nx hs ha hne h (by assumption) (by omega)
  split
  · exact iStep_Nx hs ha hne h (by assumption) (by omega)
  split
  · rename_i c
    rcases c with c | c
    · exact rStep12_Nx hs ha hne h c (by omega)
    · exact rStep13_Nx hs ha hne h c (by omega)
  split
  · exact cStep_Nx hs ha hne h (by assumption) (by omega)
  · exact hazardDo_Nx hsl hth hs ha hne h (by omega)
end
def MoQ (c : Mod.Cf) (f : Frm) : Prop := MoOk (planOf c).slots c.threads f
theorem mound_good : DoOk moundDo MoQ Ok 11 where
  st := moundDo_St
  all c x hc hp hne h := by
    obtain ⟨a1, a2, a3, a4, a5, a6⟩ := ac_pos hc
    exact moundDo_All h (by rw [hp]) (by rw [hp]; rfl) (by omega) (by omega) hne
  nx c x hc hp hne h a := by
    obtain ⟨a1, a2, a3, a4, a5, a6⟩ := ac_pos hc
    exact moundDo_Nx (by rw [hp]) (by rw [hp]; rfl) a1 a2 hne a (h.top hne)
  w c x B hc h hB hne hid := by
    obtain ⟨a1, a2, a3, a4, a5, a6⟩ := ac_pos hc
    have o : MoOk (planOf c).slots c.threads x.f := h.q.top hne
    refine h.ok hB hid ?_
    rcases o with o | ⟨_, o⟩
    · exact hz_pc o ⟨by omega, a4⟩ a3
    · omega
  new c op l hc ho := by
    obtain ⟨a1, a2, a3, a4, a5, a6⟩ := ac_pos hc
    exact mo_new (by omega) (by omega) (by omega)
theorem mound_DoC : DoC 27 moundDo Ok := fun h M T tv x R K H hw k => moundDo_call H hw k
end
section
open Mod
section
variable {x : Run} {L sl th : Int}
end
end
section
open Mod
section
variable {x : Run} {L sl th : Int}
end
end
section
open Mod
section
variable {K : Value → Heap → Prop} {h : Heap} {M : Nat} {Ts : List Nat} {R : Hp} {d : Run → Run} {W : Run → Prop} {ins : Int} {Inv : Nat → Mac → Prop} {m : Mac}
theorem inv_le (G : GoodI d W ins Inv) {i : Nat} : ∀ {j : Nat}, i ≤ j → Inv i m → Inv j m
  | 0, h, H => by
    have : i = 0 := by omega
    subst this; exact H
  | j + 1, h, H => by
    by_cases e : i = j + 1
    · subst e; exact H
    · exact G.mono j m (inv_le G (by omega) H)
theorem thrAt_some {m : Mac} {k : Nat} (h : k < m.th.length) : m.th[k]? = some (thrAt m k) := by
  unfold thrAt; rw [List.getElem?_eq_getElem h]; simp [h]
theorem thrAt_set {m z : Mac} {k : Nat} {t : Thr} (h : k < m.th.length) : thrAt (z.setTh (m.th.set k t)) k = t := by
  unfold thrAt Mod.Mac.setTh
  rw [List.getD_eq_getElem?_getD]
  simp [h]
theorem al1 {i n N : Nat} (h : N - i = n + 1) : i + 1 ≤ N := by omega
theorem al4 {i n N : Nat} (h : N - i = n + 1) : N - (i + 1) = n := by omega
theorem al2 (i : Nat) (h : i < 100000) : ((100000 : Int) - ((i + 1 : Nat) : Int)).toNat < ((100000 : Int) - (i : Int)).toNat := by omega
theorem al3 {i i0 n N : Nat} (h : N - i = n + 1) (h2 : i0 + N ≤ 90000) : i < 100000 := by omega
theorem al5 {i i0 n N : Nat} (h : N - i = n + 1) (h2 : i0 + N ≤ 90000) : i0 + i < 100000 := by omega
theorem al6 {i i0 n N : Nat} (h : N - i = n + 1) : i0 + i + 1 ≤ i0 + N := by omega
theorem s64_nat2 (j : Nat) (h : j < 100000) : s64 ((j : Int) + 1) = ((j + 1 : Nat) : Int) := by unfold s64; omega
theorem setTh_same {m : Mac} {k : Nat} (h : k < m.th.length) : m.setTh (m.th.set k (thrAt m k)) = m := by
  have ht := thrAt_some h
  unfold Mod.Mac.setTh
  have : m.th.set k (thrAt m k) = m.th := by
    apply List.ext_getElem (by simp)
    intro i h1 h2
    rw [List.getElem_set]
    split
    · rename_i e; subst e; exact (List.getElem?_eq_some_iff.1 ht).2.symm ▸ rfl
    · rfl
  rw [this]
theorem alone_call {f : Nat} (D : DoC f d W) (G : GoodI d W ins Inv) (hins : 0 ≤ ins ∧ ins ≤ 100) {k T i0 N : Nat} {t : Thr} {c : Cl} {m' : Mac} (H : Sat h (machS M Ts m * R)) (hT : Ts[k]? = some T) (ht : m.th[k]? = some t) (he : t.fr = []) (hI : Inv i0 m) (hi0 : i0 + N ≤ 90000)
    (hc : (0 ≤ c.op ∧ c.op ≤ 2) ∧ V c.key ∧ V c.val) (ha : alone d k N (m.setTh (m.th.set k (t.push (ins + c.op) [c.key, c.val]))) = some m')
    (kk : ∀ h', Inv (i0 + N) m' → m'.th.length = m.th.length → (thrAt m' k).fr = [] → Sat h' (machS M Ts m' * R) → K (.tuple #[.agg #[.int .i64 (ansOf (thrAt m' k)).op, .int .u32 (ansOf (thrAt m' k)).key, .int .u32 (ansOf (thrAt m' k)).val], .bool true]) h') :
    CallH Tryz.prog 21 #[.agg #[.func (.func f) #[] #[], .int .i64 ins], mP M, .int .i64 k, .agg #[.int .i64 c.op, .int .u32 c.key, .int .u32 c.val]] h K := by
  refine call21 ?_
  unfold F21 g21 cf lI
  have hlt : k < m.th.length := (List.getElem?_eq_some_iff.1 ht).1
  have H1 := H.push (.cells #[.func (.func f) #[] #[], .int .i64 ins] 37)
  generalize h.push (.cells #[.func (.func f) #[] #[], .int .i64 ins] 37) = h1 at *
  generalize h.size = QB at *
  have H2 := H1.push (.cells (clc c).toArray 53)
  rw [show (.cells #[.int .i64 c.op, .int .u32 c.key, .int .u32 c.val] 53 : Obj) = .cells (clc c).toArray 53 from rfl]
  generalize h1.push (.cells (clc c).toArray 53) = h2 at *
  generalize h1.size = CB at *
  have H3 := H2.push (.cells (clc cl0).toArray 49)
  rw [show (.cells #[.int .i64 0, .int .u32 0, .int .u32 0] 49 : Obj) = .cells (clc cl0).toArray 49 from rfl]
  generalize h2.push (.cells (clc cl0).toArray 49) = h3 at *
  generalize h2.size = AB at *
  have H4 : Sat h3 (machS M Ts m * (pt QB (.cells #[.func (.func f) #[] #[], .int .i64 ins] 37) * (pt CB (.cells (clc c).toArray 53) * (pt AB (.cells (clc cl0).toArray 49) * R)))) := Sat.ac H3 (by ac_rfl)
  refine callV_fn (thread_call H4 (fun hh => by omega) fun T2 _ hT2 => ?_)
  rw [Int.toNat_natCast, hT] at hT2
  cases hT2
  try simp only [nilC, bsx, Nat.reduceAdd, Int.reduceLE, Int.reduceLT, Int.reduceToNat]
  obtain ⟨⟨op0, op2⟩, hkey, hval⟩ := hc
  have hu1 : Mod.u64 c.key = c.key := by have := hkey.1; have := hkey.2; unfold Mod.u64; omega
  have hu2 : Mod.u64 c.val = c.val := by have := hval.1; have := hval.2; unfold Mod.u64; omega
  have hu3 : s64 (ins + c.op) = ins + c.op := by unfold s64; omega
  refine ldR H4.at2 rfl ?_
  try simp only [nilC, bsx, Nat.reduceAdd, Int.reduceLE, Int.reduceLT, Int.reduceToNat]
  refine ldR H4.at3 rfl ?_
  try simp only [nilC, bsx, Nat.reduceAdd, Int.reduceLE, Int.reduceLT, Int.reduceToNat]
  refine ldR H4.at3 rfl ?_
  try simp only [nilC, bsx, Nat.reduceAdd, Int.reduceLE, Int.reduceLT, Int.reduceToNat]
  refine ldR H4.at3 rfl ?_
  try simp only [nilC, bsx, Nat.reduceAdd, Int.reduceLE, Int.reduceLT, Int.reduceToNat, hu1, hu2, hu3]
  obtain ⟨tv, Q, H5, re⟩ := machS_take H4 hT ht
  refine callV_fn (rPushN H5 [c.key, c.val] rfl (two_U ⟨hkey.1, by have := hkey.2; omega⟩ ⟨hval.1, by have := hval.2; omega⟩) (by omega) (by show t.fr.length < _; rw [he]; decide) fun h4 b o _ _ H6 => ?_)
  have H7 := re h4 _ _ rfl (RunS.none H6)
  have hI1 := G.push i0 m k t c hI ht he ⟨op0, op2⟩ hkey hval
  have hm0 : (thrAt (m.setTh (m.th.set k (t.push (ins + c.op) [c.key, c.val]))) k).fr ≠ [] := by
    rw [thrAt_set hlt]; unfold Mod.Thr.push; simp
  have hl0 : (m.setTh (m.th.set k (t.push (ins + c.op) [c.key, c.val]))).th.length = m.th.length := by
    show (m.th.set k _).length = _; rw [List.length_set]
  have H7 : Sat h4 (machS M Ts (m.setTh (m.th.set k (t.push (ins + c.op) [c.key, c.val]))) * (pt QB (.cells #[.func (.func f) #[] #[], .int .i64 ins] 37) * (pt CB (.cells (clc c).toArray 53) * (pt AB (.cells (clc cl0).toArray 49) * R)))) := H7
  generalize m.setTh (m.th.set k (t.push (ins + c.op) [c.key, c.val])) = m0 at *
  try simp only [nilC, bsx, Nat.reduceAdd, Int.reduceLE, Int.reduceLT, Int.reduceToNat]
  refine ⟨fun vs h' => ∃ (i : Nat) (w : Value) (mi : Mac), vs = [w, .int .i64 i] ∧ i ≤ N ∧ alone d k (N - i) mi = some m' ∧ Inv (i0 + i) mi ∧ mi.th.length = m.th.length ∧ (thrAt mi k).fr ≠ [] ∧ Sat h' (machS M Ts mi * (pt QB (.cells #[.func (.func f) #[] #[], .int .i64 ins] 37) * (pt CB (.cells (clc c).toArray 53) * (pt AB (.cells (clc cl0).toArray 49) * R)))), fun vs _ => match vs with | [_, .int _ i] => (100000 - i).toNat | _ => 0, ⟨0, _, m0, rfl, Nat.zero_le _, ha, hI1, hl0, hm0, H7⟩, ?_⟩
  rintro v21 v22 g23 h24 ⟨i, w, mi, e, hi, hai, hIi, hli, hfi, H8⟩
  cases e
  try simp only [nilC, bsx, Nat.reduceAdd, Int.reduceLE, Int.reduceLT, Int.reduceToNat]
  have hN : ∃ n, N - i = n + 1 := by
    cases hNi : N - i with
    | zero => rw [hNi] at hai; unfold alone at hai; cases hai
    | succ n => exact ⟨n, rfl⟩
  obtain ⟨n, hn⟩ := hN
  rw [hn] at hai
  unfold alone at hai
  have hfl : mi.fault = false := by
    cases hh : mi.fault with
    | false => rfl
    | true => rw [hh] at hai; simp at hai
  rw [hfl] at hai
  simp only [Bool.false_eq_true, if_false] at hai
  refine ⟨fun vs h' => vs = [.bool true] ∧ Sat h' (machS M Ts mi * (pt QB (.cells #[.func (.func f) #[] #[], .int .i64 ins] 37) * (pt CB (.cells (clc c).toArray 53) * (pt AB (.cells (clc cl0).toArray 49) * R)))), ?_, ?_⟩
  · have e1 : decide ((i : Int) < 100000) = true := decide_eq_true (by have := al3 hn hi0; exact Int.ofNat_lt.2 this)
    rw [e1]
    simp only [ifB_true]
    obtain ⟨a, cc, hl, H9⟩ := machS_iff.1 H8
    refine callV_fn (fault_call H9 fun h' H10 => ?_)
    rw [hfl]
    try simp only [nilC, bsx, Nat.reduceAdd, Int.reduceLE, Int.reduceLT, Int.reduceToNat]
    exact machS_iff.2 ⟨a, cc, hl, H10⟩
  rintro v30 g31 h32 ⟨e, H9⟩
  cases e
  try simp only [nilC, bsx, Nat.reduceAdd, Int.reduceLE, Int.reduceLT, Int.reduceToNat]
  refine ldR H9.at2 rfl ?_
  have hlt2 : k < mi.th.length := by omega
  obtain ⟨nn, z, hb, hs, hid, hzt, hI2⟩ := G.step (i0 + i) mi k _ hIi (al5 hn hi0) (thrAt_some hlt2) hfi
  refine callV_fn (stepLoop_call D H9 (n := nn) (z := z) (i := k) (by omega) (by rw [Int.toNat_natCast]; exact thrAt_some hlt2) hb hs hid fun h' H10 => ?_)
  rw [Int.toNat_natCast] at H10
  have hstep : mi.step k d 40 = some (!z.t.fr.isEmpty, z.m.setTh (mi.th.set k z.t)) := by
    unfold Mod.Mac.step at hai ⊢
    rw [if_neg (by omega), Int.toNat_natCast] at hai ⊢
    cases hb4 : Mod.bits d 40 ⟨{ mi with acted := false }, mi.th.getD k (thr0 mi.p.c), k⟩ with
    | none => rw [hb4] at hai; cases hai
    | some y =>
      have ey : z = y := bits_det hb hb4
      subst ey
      show some (!z.t.fr.isEmpty, { z.m with th := z.m.th.set k z.t }) = _
      rw [hzt]
      rfl
  rw [hstep] at hai
  try simp only [nilC, bsx, Nat.reduceAdd, Int.reduceLE, Int.reduceLT, Int.reduceToNat]
  cases hzf : z.t.fr with
  | nil =>
    rw [hzf] at hai
    have hm' : z.m.setTh (mi.th.set k z.t) = m' := Option.some.inj hai
    rw [hm'] at H10 hI2
    have hthr : thrAt m' k = z.t := by rw [← hm']; exact thrAt_set hlt2
    have hl9 : m'.th.length = m.th.length := by
      rw [← hm']; show (mi.th.set k z.t).length = _; rw [List.length_set]; exact hli
    have hlt9 : k < m'.th.length := by omega
    obtain ⟨tv2, Q2, H11, re2⟩ := machS_take H10 hT (thrAt_some hlt9)
    refine ifB_mk (fun _ => ?_) (fun hh => by simp at hh)
    refine callV_fn (answer_call (RunS.thr H11) fun h5 H12 => ?_)
    have H13 := re2 h5 ⟨m', thrAt m' k, k⟩ (pt QB (.cells #[.func (.func f) #[] #[], .int .i64 ins] 37) * (pt CB (.cells (clc c).toArray 53) * (pt AB (.cells (clc cl0).toArray 49) * R))) rfl (RunS.ofThr H12)
    have H13 : Sat h5 (machS M Ts (m'.setTh (m'.th.set k (thrAt m' k))) * (pt QB (.cells #[.func (.func f) #[] #[], .int .i64 ins] 37) * (pt CB (.cells (clc c).toArray 53) * (pt AB (.cells (clc cl0).toArray 49) * R)))) := H13
    rw [setTh_same hlt9] at H13
    try simp only [nilC, bsx, Nat.reduceAdd, Int.reduceLE, Int.reduceLT, Int.reduceToNat]
    refine sizeH_mk rfl (elemH_mk rfl (elemH_mk rfl (elemH_mk rfl ?_)))
    rw [rot4] at H13
    have O := H13.at
    refine st3 (stN_full (vs := clc (ansOf (thrAt m' k))) H13.at rfl (by simp [clc, oneC]) fun h6 w => ?_)
    have H14 := H13.wr w.new w.old
    refine ldR H14.at rfl (ldR H14.at rfl (ldR H14.at rfl ?_))
    rw [← rot4] at H14
    exact kk h6 (inv_le G (al6 hn) hI2) hl9 (by rw [hthr, hzf]) H14.drop2.drop2.drop2
  | cons a l =>
    rw [hzf] at hai
    have hai : alone d k n (z.m.setTh (mi.th.set k z.t)) = some m' := hai
    refine ifB_mk (fun hh => by simp at hh) (fun _ => ?_)
    have hb8 : i < 100000 := al3 hn hi0
    have e2 := s64_nat2 i hb8
    rw [e2]
    refine ⟨⟨i + 1, _, _, rfl, al1 hn, by rw [al4 hn]; exact hai, hI2, ?_, ?_, H10⟩, ?_⟩
    · show (mi.th.set k z.t).length = _; rw [List.length_set]; exact hli
    · rw [thrAt_set hlt2, hzf]; simp
    · exact al2 i hb8
end
end
section
open Mod
def lives3 (d : Run → Run) (ins : Int) (m : Mac) : Option (List Int × List Int × List Int) := do
  let (a, m) ← aloneC d ins m 0 5 1
  let (b, m) ← aloneC d ins m 0 3 2
  let (c, m) ← aloneC d ins m 1 0 0
  pure (a, b, c)
theorem aloneC_some {d : Run → Run} {ins : Int} {m m' : Mac} {op key val : Int} {r : List Int} (h : aloneC d ins m op key val = some (r, m')) :
    alone d 0 2000 (m.setTh (m.th.set 0 ((thrAt m 0).push (ins + op) [key, val]))) = some m' ∧ (thrAt m' 0).ret = r := by
  unfold aloneC at h
  cases ha : alone d 0 2000 (pushM m 0 (ins + op) [key, val]) with
  | none => rw [ha] at h; cases h
  | some y =>
    rw [ha] at h
    have h := Option.some.inj h
    obtain ⟨h1, h2⟩ := Prod.mk.inj h
    subst h2
    exact ⟨ha, h1⟩
theorem lives3_parts {d : Run → Run} {ins : Int} {m : Mac} {a b c : List Int} (h : lives3 d ins m = some (a, b, c)) : ∃ m1 m2 m3, (alone d 0 2000 (m.setTh (m.th.set 0 ((thrAt m 0).push (ins + 0) [5, 1]))) = some m1 ∧ (thrAt m1 0).ret = a) ∧ (alone d 0 2000 (m1.setTh (m1.th.set 0 ((thrAt m1 0).push (ins + 0) [3, 2]))) = some m2 ∧ (thrAt m2 0).ret = b) ∧ (alone d 0 2000 (m2.setTh (m2.th.set 0 ((thrAt m2 0).push (ins + 1) [0, 0]))) = some m3 ∧ (thrAt m3 0).ret = c) := by
  unfold lives3 at h
  cases h1 : aloneC d ins m 0 5 1 with
  | none => rw [h1] at h; cases h
  | some p1 =>
    obtain ⟨r1, m1⟩ := p1
    cases h2 : aloneC d ins m1 0 3 2 with
    | none => simp [h1, h2] at h
    | some p2 =>
      obtain ⟨r2, m2⟩ := p2
      cases h3 : aloneC d ins m2 1 0 0 with
      | none => simp [h1, h2, h3] at h
      | some p3 =>
        obtain ⟨r3, m3⟩ := p3
        simp [h1, h2, h3] at h
        obtain ⟨rfl, rfl, rfl⟩ := h
        exact ⟨m1, m2, m3, aloneC_some h1, aloneC_some h2, aloneC_some h3⟩
section
variable {K : Value → Heap → Prop} {h : Heap} {R : Hp} {d : Run → Run} {W : Run → Prop} {Inv : Nat → Mac → Prop}
theorem st2 {h : Heap} {b : Nat} {v0 v1 : Value} {K : Heap → Prop} (H : stN h ⟨b, 0, none⟩ 0 [v0, v1] K) : stH h ⟨b, 0, none⟩ v0 fun h => stH h ⟨b, 1, none⟩ v1 K := H
theorem queue21_call (H : Sat h R) (k : ∀ h', Sat h' R → K (.agg #[.func (.func 27) #[] #[], .int .i64 11]) h') : CallH Tryz.prog 13 #[] h K := by
  refine call13 ?_
  unfold F13
  have H1 := H.push (.cells #[.nilFunc, .int .i64 0] 37)
  generalize h.push (.cells #[.nilFunc, .int .i64 0] 37) = h1 at *
  generalize h.size = QB at *
  refine st2 (stN_full (vs := [.func (.func 27) #[] #[], .int .i64 11]) H1.at rfl (by simp [oneC]) fun h2 w => ?_)
  have H2 := H1.wr w.new w.old
  exact ldR H2.at rfl (ldR H2.at rfl (k h2 H2.drop))
theorem ans_guard : Tryz.prog.eqGuardType Tryz.prog.depth 49 = false := by kernel_rfl
theorem ans_eqv : eqv Tryz.prog 10000 49 (.agg #[.int .i64 2, .int .u32 3, .int .u32 2]) (.agg #[.int .i64 2, .int .u32 3, .int .u32 2]) = some true := by kernel_rfl
theorem answer_eqv {F : Bool → Prop} (k : F true) : eqvH Tryz.prog 49 (.agg #[.int .i64 2, .int .u32 3, .int .u32 2]) (.agg #[.int .i64 2, .int .u32 3, .int .u32 2]) F := by
  unfold eqvH
  rw [ans_guard]
  show (match eqv Tryz.prog 10000 49 (.agg #[.int .i64 2, .int .u32 3, .int .u32 2]) (.agg #[.int .i64 2, .int .u32 3, .int .u32 2]) with | some b => F b | none => False)
  rw [ans_eqv]
  exact k
theorem lives21_call (D : DoC 27 moundDo W) (G : GoodI moundDo W 11 Inv) (hI : Inv 0 (macNew ⟨0, 1, 4, 3, 1, 1, 1⟩ [] true)) (H : Sat h R) (k : ∀ h', Sat h' R → K (.bool true) h') :
    CallH Tryz.prog 12 #[] h K := by
  refine call12 ?_
  unfold F12 cf lI
  have hl : lives3 moundDo 11 (macNew ⟨0, 1, 4, 3, 1, 1, 1⟩ [] true) = some ([0, 0, 0], [0, 0, 0], [2, 3, 2]) := lives21_eq
  obtain ⟨m1, m2, m3, ⟨a1, r1⟩, ⟨a2, r2⟩, ⟨a3, r3⟩⟩ := lives3_parts hl
  refine callV_fn (coreNew_call (c := ⟨0, 1, 4, 3, 1, 1, 1⟩) (a := none) (cc := 0) (bs := []) H (fun _ _ _ => Sees.nil _ _) (by simp) (by simp) (fun hh => by simp [okC] at hh) fun _ h1 M Ts H1 => ?_)
  obtain ⟨ta, tc, ⟨hTl, _⟩, _⟩ := machS_iff.1 H1
  have hth0 : (macNew ⟨0, 1, 4, 3, 1, 1, 1⟩ [] true).th = [thr0 ⟨0, 1, 4, 3, 1, 1, 1⟩] := rfl
  generalize hm0 : macNew ⟨0, 1, 4, 3, 1, 1, 1⟩ [] true = m0 at *
  have hl0 : m0.th.length = 1 := by rw [hth0]; rfl
  obtain ⟨T, hT⟩ : ∃ T, Ts[0]? = some T := ⟨_, List.getElem?_eq_getElem (by omega)⟩
  have he0 : (thrAt m0 0).fr = [] := by unfold thrAt; rw [hth0]; rfl
  try simp only [nilC, bsx, Nat.reduceAdd, Int.reduceLE, Int.reduceLT, Int.reduceToNat]
  refine elem20' ?_
  try simp only [nilC, bsx, Nat.reduceAdd, Int.reduceLE, Int.reduceLT, Int.reduceToNat]
  refine elem21' ?_
  try simp only [nilC, bsx, Nat.reduceAdd, Int.reduceLE, Int.reduceLT, Int.reduceToNat]
  refine callV_fn (queue21_call H1 fun h2 H2 => ?_)
  try simp only [nilC, bsx, Nat.reduceAdd, Int.reduceLE, Int.reduceLT, Int.reduceToNat]
  refine sizeH_mk rfl (elemH_mk rfl (elemH_mk rfl ?_))
  have H3 := H2.push (.cells #[.nilFunc, .int .i64 0] 37)
  generalize h2.push (.cells #[.nilFunc, .int .i64 0] 37) = h3 at *
  generalize h2.size = QB at *
  refine st2 (stN_full (vs := [.func (.func 27) #[] #[], .int .i64 11]) H3.at rfl (by simp [oneC]) fun h4 w => ?_)
  have H4 := H3.wr w.new w.old
  clear H1 H2 H3 w
  rw [star_left] at H4
  refine ldR H4.at2 rfl (ldR H4.at2 rfl ?_)
  have g1 : ∀ (r : List Int) (a b c : Int), r = [a, b, c] → r.getD 0 0 = a ∧ r.getD 1 0 = b ∧ r.getD 2 0 = c := fun r a b c e => by subst e; exact ⟨rfl, rfl, rfl⟩
  have an : ∀ (m : Mac) (a b c : Int), (thrAt m 0).ret = [a, b, c] → ansOf (thrAt m 0) = ⟨s64 a, u32 b, u32 c⟩ := fun m a b c e => by unfold ansOf; rw [e]; rfl
  refine callV_fn (alone_call (k := 0) (i0 := 0) (N := 2000) (c := ⟨0, 5, 1⟩) D G (by omega) H4 hT (thrAt_some (by omega)) he0 hI (by omega) ⟨⟨by decide, by decide⟩, ⟨by decide, by decide⟩, ⟨by decide, by decide⟩⟩ a1 fun h5 hI1 hl1 he1 H5 => ?_)
  rw [an m1 _ _ _ r1]
  try simp only [nilC, bsx, Nat.reduceAdd, Int.reduceLE, Int.reduceLT, Int.reduceToNat]
  refine elem20' ?_
  try simp only [nilC, bsx, Nat.reduceAdd, Int.reduceLE, Int.reduceLT, Int.reduceToNat]
  refine sizeH_mk rfl (elemH_mk rfl (elemH_mk rfl (elemH_mk rfl ?_)))
  try simp only [nilC, bsx, Nat.reduceAdd, Int.reduceLE, Int.reduceLT, Int.reduceToNat]
  refine elem21' ?_
  try simp only [nilC, bsx, Nat.reduceAdd, Int.reduceLE, Int.reduceLT, Int.reduceToNat]
  have H6 := H5.push (.cells #[.int .i64 0, .int .u32 0, .int .u32 0] 49)
  generalize h5.push (.cells #[.int .i64 0, .int .u32 0, .int .u32 0] 49) = h6 at *
  generalize h5.size = A1 at *
  refine st3 (stN_full (vs := [.int .i64 (s64 0), .int .u32 (u32 0), .int .u32 (u32 0)]) H6.at rfl (by simp [oneC]) fun h7 w => ?_)
  have H7 := H6.wr w.new w.old
  clear H4 H5 H6 w
  rw [star_left] at H7
  refine ldR H7.at3 rfl (ldR H7.at3 rfl ?_)
  refine callV_fn (alone_call (k := 0) (i0 := 0 + 2000) (N := 2000) (c := ⟨0, 3, 2⟩) D G (by omega) H7 hT (thrAt_some (by omega)) he1 hI1 (by omega) ⟨⟨by decide, by decide⟩, ⟨by decide, by decide⟩, ⟨by decide, by decide⟩⟩ a2 fun h8 hI2 hl2 he2 H8 => ?_)
  rw [an m2 _ _ _ r2]
  try simp only [nilC, bsx, Nat.reduceAdd, Int.reduceLE, Int.reduceLT, Int.reduceToNat]
  refine elem20' ?_
  try simp only [nilC, bsx, Nat.reduceAdd, Int.reduceLE, Int.reduceLT, Int.reduceToNat]
  refine sizeH_mk rfl (elemH_mk rfl (elemH_mk rfl (elemH_mk rfl ?_)))
  try simp only [nilC, bsx, Nat.reduceAdd, Int.reduceLE, Int.reduceLT, Int.reduceToNat]
  refine elem21' ?_
  try simp only [nilC, bsx, Nat.reduceAdd, Int.reduceLE, Int.reduceLT, Int.reduceToNat]
  have H9 := H8.push (.cells #[.int .i64 0, .int .u32 0, .int .u32 0] 49)
  generalize h8.push (.cells #[.int .i64 0, .int .u32 0, .int .u32 0] 49) = h9 at *
  generalize h8.size = A2 at *
  refine st3 (stN_full (vs := [.int .i64 (s64 0), .int .u32 (u32 0), .int .u32 (u32 0)]) H9.at rfl (by simp [oneC]) fun h10 w => ?_)
  have H10 := H9.wr w.new w.old
  clear H7 H8 H9 w
  rw [star_left] at H10
  have HQ10 := (H10.drop.drop.drop).at
  refine ldR HQ10 rfl (ldR HQ10 rfl ?_)
  refine callV_fn (alone_call (k := 0) (i0 := 0 + 2000 + 2000) (N := 2000) (c := ⟨1, 0, 0⟩) D G (by omega) H10 hT (thrAt_some (by omega)) he2 hI2 (by omega) ⟨⟨by decide, by decide⟩, ⟨by decide, by decide⟩, ⟨by decide, by decide⟩⟩ a3 fun h11 hI3 hl3 he3 H11 => ?_)
  rw [an m3 _ _ _ r3]
  try simp only [nilC, bsx, Nat.reduceAdd, Int.reduceLE, Int.reduceLT, Int.reduceToNat]
  refine elem20' ?_
  try simp only [nilC, bsx, Nat.reduceAdd, Int.reduceLE, Int.reduceLT, Int.reduceToNat]
  refine sizeH_mk rfl (elemH_mk rfl (elemH_mk rfl (elemH_mk rfl ?_)))
  try simp only [nilC, bsx, Nat.reduceAdd, Int.reduceLE, Int.reduceLT, Int.reduceToNat]
  refine elem21' ?_
  try simp only [nilC, bsx, Nat.reduceAdd, Int.reduceLE, Int.reduceLT, Int.reduceToNat]
  have H12 := H11.push (.cells #[.int .i64 0, .int .u32 0, .int .u32 0] 49)
  generalize h11.push (.cells #[.int .i64 0, .int .u32 0, .int .u32 0] 49) = h12 at *
  generalize h11.size = A3 at *
  refine st3 (stN_full (vs := [.int .i64 (s64 2), .int .u32 (u32 3), .int .u32 (u32 2)]) H12.at rfl (by simp [oneC]) fun h13 w => ?_)
  have H13 := H12.wr w.new w.old
  clear H10 H11 H12 w
  have O3 := H13.at
  have O2 := (H13.drop.drop).at
  have O1 := (H13.drop.drop.drop).at
  have z0 : s64 0 = 0 := by decide
  have z1 : ((0 : Int) == 0) = true := by decide
  refine ldR O1 rfl ?_
  try simp only [nilC, bsx, Nat.reduceAdd, Int.reduceLE, Int.reduceLT, Int.reduceToNat, z0, z1]
  refine ldR O2 rfl ?_
  try simp only [nilC, bsx, Nat.reduceAdd, Int.reduceLE, Int.reduceLT, Int.reduceToNat, z0, z1]
  refine ldR O3 rfl (ldR O3 rfl (ldR O3 rfl ?_))
  have z2 : s64 2 = 2 := by decide
  have z3 : u32 3 = 3 := by decide
  have z4 : u32 2 = 2 := by decide
  try simp only [nilC, bsx, Nat.reduceAdd, Int.reduceLE, Int.reduceLT, Int.reduceToNat, z2, z3, z4]
  exact answer_eqv (k h13 H13.drop.drop.drop.drop.drop)
end
end
section

end
section
theorem right_call {K : Value → Heap → Prop} {h : Heap} (c : Cf) (k1 : c.Right → ∀ h', Old h.size h h' → K (.bool true) h') (k0 : ¬ c.Right → ∀ h', Old h.size h h' → K (.bool false) h') :
    CallH Tryz.prog 19 #[.agg c.vals] h K := by
  refine call19 ?_
  unfold F19 g19 cf ce lI
  have p1 := pushed h c.vals 23
  rw [show h.push (.cells #[.int .i64 c.a, .int .i64 c.t, .int .i64 c.n, .int .i64 c.l, .int .i64 c.b, .int .i64 c.p, .int .i64 c.s] 23) = h.push (.cells c.vals 23) from rfl]
  generalize h.push (.cells c.vals 23) = h1 at *
  have o1 := p1.toOld
  have c1 := p1.new
  refine ⟨fun vs h' => ∃ v1 v2 v3 v4 v5 v6 b, vs = [v1, v2, v3, v4, v5, v6, .bool b] ∧ h' = h1 ∧ (b = true → ¬ c.Right) ∧ (b = false → 0 ≤ c.a ∧ c.a ≤ 2 ∧ 1 ≤ c.t ∧ c.t ≤ 6 ∧ 1 ≤ c.n ∧ c.n ≤ 64 ∧ 1 ≤ c.l ∧ c.l ≤ 6), ?_, ?_⟩
  · refine ldR c1 rfl ?_
    simp only [asInt_int]
    refine ifB_dec (fun q => ⟨_, _, _, _, _, _, _, rfl, by trivial, fun _ r => by have := r.a; omega, fun e => by cases e⟩) fun q1 => ?_
    refine ldR c1 rfl ?_
    simp only [asInt_int]
    refine ifB_dec (fun q => ⟨_, _, _, _, _, _, _, rfl, by trivial, fun _ r => by have := r.a; omega, fun e => by cases e⟩) fun q2 => ?_
    refine ldR c1 rfl ?_
    simp only [asInt_int]
    refine ifB_dec (fun q => ⟨_, _, _, _, _, _, _, rfl, by trivial, fun _ r => by have := r.t; omega, fun e => by cases e⟩) fun q3 => ?_
    refine ldR c1 rfl ?_
    simp only [asInt_int]
    refine ifB_dec (fun q => ⟨_, _, _, _, _, _, _, rfl, by trivial, fun _ r => by have := r.t; omega, fun e => by cases e⟩) fun q4 => ?_
    refine ldR c1 rfl ?_
    simp only [asInt_int]
    refine ifB_dec (fun q => ⟨_, _, _, _, _, _, _, rfl, by trivial, fun _ r => by have := r.n; omega, fun e => by cases e⟩) fun q5 => ?_
    refine ldR c1 rfl ?_
    simp only [asInt_int]
    refine ifB_dec (fun q => ⟨_, _, _, _, _, _, _, rfl, by trivial, fun _ r => by have := r.n; omega, fun e => by cases e⟩) fun q6 => ?_
    refine ldR c1 rfl ?_
    simp only [asInt_int]
    refine ifB_dec (fun q => ⟨_, _, _, _, _, _, _, rfl, by trivial, fun _ r => by have := r.l; omega, fun e => by cases e⟩) fun q7 => ?_
    refine ldR c1 rfl ?_
    simp only [asInt_int]
    refine ⟨_, _, _, _, _, _, _, rfl, by trivial, fun e r => ?_, fun e => ?_⟩
    · have := of_decide_eq_true e; have := r.l; omega
    · have := of_decide_eq_false e; omega
  rintro v17 v18 v19 v20 v21 v22 v23 g24 h25 ⟨_, _, _, _, _, _, b, e, rfl, hb1, hb0⟩
  cases e
  simp only [asBool_bool]
  refine ifB_mk (fun hb => k0 (hb1 hb) _ o1) (fun hb => ?_)
  obtain ⟨a1, a2, t1, t2, n1, n2, l1, l2⟩ := hb0 hb
  refine ⟨fun vs h' => ∃ v1 v2 v3 v4 b, vs = [v1, v2, v3, v4, .bool b] ∧ h' = h25 ∧ (b = true → ¬ c.Right) ∧ (b = false → 1 ≤ c.b ∧ c.b ≤ 16 ∧ 1 ≤ c.p ∧ c.p ≤ 16 ∧ 1 ≤ c.s ∧ c.s ≤ 64), ?_, ?_⟩
  · refine ldR c1 rfl ?_
    simp only [asInt_int]
    refine ifB_dec (fun q => ⟨_, _, _, _, _, rfl, by trivial, fun _ r => by have := r.b; omega, fun e => by cases e⟩) fun q1 => ?_
    refine ldR c1 rfl ?_
    simp only [asInt_int]
    refine ifB_dec (fun q => ⟨_, _, _, _, _, rfl, by trivial, fun _ r => by have := r.b; omega, fun e => by cases e⟩) fun q2 => ?_
    refine ldR c1 rfl ?_
    simp only [asInt_int]
    refine ifB_dec (fun q => ⟨_, _, _, _, _, rfl, by trivial, fun _ r => by have := r.p; omega, fun e => by cases e⟩) fun q3 => ?_
    refine ldR c1 rfl ?_
    simp only [asInt_int]
    refine ifB_dec (fun q => ⟨_, _, _, _, _, rfl, by trivial, fun _ r => by have := r.p; omega, fun e => by cases e⟩) fun q4 => ?_
    refine ldR c1 rfl ?_
    simp only [asInt_int]
    refine ifB_dec (fun q => ⟨_, _, _, _, _, rfl, by trivial, fun _ r => by have := r.s; omega, fun e => by cases e⟩) fun q5 => ?_
    refine ldR c1 rfl ?_
    simp only [asInt_int]
    refine ⟨_, _, _, _, _, rfl, by trivial, fun e r => ?_, fun e => ?_⟩
    · have := of_decide_eq_true e; have := r.s; omega
    · have := of_decide_eq_false e; omega
  rintro v40 v41 v42 v43 v44 g45 h46 ⟨_, _, _, _, b', e, rfl, hb1', hb0'⟩
  cases e
  simp only [asBool_bool]
  refine ifB_mk (fun hb' => k0 (hb1' hb') _ o1) (fun hb' => ?_)
  obtain ⟨b1, b2, p1', p2, s1, s2⟩ := hb0' hb'
  refine ldR c1 rfl ?_
  simp only [asInt_int]
  iterate 7 (refine ldR c1 rfl ?_)
  refine callV_fn ?_
  refine (show CallH Tryz.prog 29 #[.agg c.vals] h46 _ from call29 ?_)
  unfold F29 g29 lI
  have p2' := pushed h46 c.vals 23
  rw [show h46.push (.cells #[.int .i64 c.a, .int .i64 c.t, .int .i64 c.n, .int .i64 c.l, .int .i64 c.b, .int .i64 c.p, .int .i64 c.s] 23) = h46.push (.cells c.vals 23) from rfl]
  generalize h46.push (.cells c.vals 23) = h2 at *
  have o2 := o1.trans (p2'.toOld.mono o1.1)
  have c2 := (p2'.old h.size (by have := p1.size; omega)).trans c1
  have fin : ∀ z : Int, z = c.sent → (z < c.n ↔ c.Right) := fun z e => ⟨fun hz => ⟨⟨a1, a2⟩, ⟨t1, t2⟩, ⟨n1, n2⟩, ⟨l1, l2⟩, ⟨b1, b2⟩, ⟨p1', p2⟩, ⟨s1, s2⟩, by omega⟩, fun r => by have := r.z; omega⟩
  have fin2 : ∀ z : Int, z = c.sent → K (.bool (decide (c.n > z))) h2 := fun z e => by
    by_cases hz : z < c.n
    · rw [decide_eq_true hz]; exact k1 ((fin z e).1 hz) _ o2
    · rw [decide_eq_false hz]; exact k0 (fun r => hz ((fin z e).2 r)) _ o2
  refine ldR p2'.new rfl ?_
  simp only [asInt_int]
  refine ifB_mk (fun hz => ?_) (fun hz => ?_)
  · exact ⟨cellR c2 rfl, fin2 _ (by unfold Cf.sent; rw [if_pos (by simpa using hz)])⟩
  · exact ⟨cellR c2 rfl, fin2 _ (by unfold Cf.sent; rw [if_neg (by simpa using hz)])⟩
end
section
set_option maxHeartbeats 1000000
open Mod
theorem ag10 {v0 v1 v2 v3 v4 v5 v6 v7 v8 v9 : Value} {F : Value → Value → Value → Value → Value → Value → Value → Value → Value → Value → Prop} (k : F v0 v1 v2 v3 v4 v5 v6 v7 v8 v9) : asAgg (.agg #[v0, v1, v2, v3, v4, v5, v6, v7, v8, v9]) fun vs => sizeH vs 10 (elemH vs 0 fun a => elemH vs 1 fun b => elemH vs 2 fun c => elemH vs 3 fun d => elemH vs 4 fun e => elemH vs 5 fun f => elemH vs 6 fun g => elemH vs 7 fun i => elemH vs 8 fun j => elemH vs 9 fun l => F a b c d e f g i j l) := k
theorem ag7 {v0 v1 v2 v3 v4 v5 v6 : Value} {F : Value → Value → Value → Value → Value → Value → Value → Prop} (k : F v0 v1 v2 v3 v4 v5 v6) : asAgg (.agg #[v0, v1, v2, v3, v4, v5, v6]) fun vs => sizeH vs 7 (elemH vs 0 fun a => elemH vs 1 fun b => elemH vs 2 fun c => elemH vs 3 fun d => elemH vs 4 fun e => elemH vs 5 fun f => elemH vs 6 fun g => F a b c d e f g) := k
theorem ag2 {v0 v1 : Value} {F : Value → Value → Prop} (k : F v0 v1) : asAgg (.agg #[v0, v1]) fun vs => sizeH vs 2 (elemH vs 0 fun a => elemH vs 1 fun b => F a b) := k
theorem tp20 {v0 v1 : Value} {F : Value → Prop} (k : F v0) : asTup (.tuple #[v0, v1]) fun vs => elemH vs 0 F := k
theorem tp21 {v0 v1 : Value} {F : Value → Prop} (k : F v1) : asTup (.tuple #[v0, v1]) fun vs => elemH vs 1 F := k
section
variable {K : Value → Heap → Prop} {h : Heap} {R : Hp}
theorem rgt_call {c : Mod.Cf} (H : Sat h R) (k1 : okC c = true → ∀ h', Old h.size h h' → Sat h' R → K (.bool true) h') (k0 : okC c = false → ∀ h', Old h.size h h' → Sat h' R → K (.bool false) h') :
    CallH Tryz.prog 19 #[.agg #[.int .i64 c.algo, .int .i64 c.threads, .int .i64 c.nodes, .int .i64 c.level, .int .i64 c.batch, .int .i64 c.probes, .int .i64 c.scan]] h K := by
  refine right_call (toCf c) (fun hr h' o => k1 ((toCf_right c).1 hr) h' o (H.old o)) (fun hr h' o => k0 ?_ h' o (H.old o))
  rw [← Bool.not_eq_true]
  exact fun hh => hr ((toCf_right c).2 hh)
end
end
section
set_option maxHeartbeats 1000000
open Mod
section
variable {K : Value → Heap → Prop} {h : Heap} {R : Hp}
theorem conf21_call {c : Mod.Cf} (H : Sat h R) (k : ∀ b h', okC { c with algo := 0 } = b → Sat h' R → K (.tuple #[.agg #[.int .i64 0, .int .i64 c.threads, .int .i64 c.nodes, .int .i64 c.level, .int .i64 c.batch, .int .i64 c.probes, .int .i64 c.scan], .bool b]) h') :
    CallH Tryz.prog 11 #[.agg #[.int .i64 c.algo, .int .i64 c.threads, .int .i64 c.nodes, .int .i64 c.level, .int .i64 c.batch, .int .i64 c.probes, .int .i64 c.scan]] h K := by
  refine call11 ?_
  unfold F11 g11 cf ce
  have H1 := H.push (.cells #[.int .i64 c.algo, .int .i64 c.threads, .int .i64 c.nodes, .int .i64 c.level, .int .i64 c.batch, .int .i64 c.probes, .int .i64 c.scan] 23)
  generalize h.push (.cells #[.int .i64 c.algo, .int .i64 c.threads, .int .i64 c.nodes, .int .i64 c.level, .int .i64 c.batch, .int .i64 c.probes, .int .i64 c.scan] 23) = h1 at *
  generalize h.size = CB at *
  have H2 := H1.push (.cells #[.int .i64 0, .int .i64 0, .int .i64 0, .int .i64 0, .int .i64 0, .int .i64 0, .int .i64 0] 23)
  generalize h1.push (.cells #[.int .i64 0, .int .i64 0, .int .i64 0, .int .i64 0, .int .i64 0, .int .i64 0, .int .i64 0] 23) = h2 at *
  generalize h1.size = ZB at *
  rw [star_left] at H2
  refine H2.st (i := 0) rfl trivial fun h3 H3 => ?_
  have O := H3.at
  refine ldR O rfl (ldR O rfl (ldR O rfl (ldR O rfl (ldR O rfl (ldR O rfl (ldR O rfl (ldR O rfl (ldR O rfl (ldR O rfl (ldR O rfl (ldR O rfl (ldR O rfl (ldR O rfl ?_)))))))))))))
  have both : ∀ b h', okC { c with algo := 0 } = b → Sat h' (pt CB (.cells #[.int .i64 0, .int .i64 c.threads, .int .i64 c.nodes, .int .i64 c.level, .int .i64 c.batch, .int .i64 c.probes, .int .i64 c.scan] 23) * (pt ZB (.cells #[.int .i64 0, .int .i64 0, .int .i64 0, .int .i64 0, .int .i64 0, .int .i64 0, .int .i64 0] 23) * R)) → asBool (.bool b) fun b17 => ((cellAt h' ⟨CB, 0, none⟩ = some (.int .i64 0)) ∧ (cellAt h' ⟨CB, 1, none⟩ = some (.int .i64 c.threads)) ∧ (cellAt h' ⟨CB, 2, none⟩ = some (.int .i64 c.nodes)) ∧ (cellAt h' ⟨CB, 3, none⟩ = some (.int .i64 c.level)) ∧ (cellAt h' ⟨CB, 4, none⟩ = some (.int .i64 c.batch)) ∧ (cellAt h' ⟨CB, 5, none⟩ = some (.int .i64 c.probes)) ∧ (cellAt h' ⟨CB, 6, none⟩ = some (.int .i64 c.scan)) ∧ stH h' ⟨ZB, 0, none⟩ (.int .i64 0) fun h => stH h ⟨ZB, 1, none⟩ (.int .i64 c.threads) fun h => stH h ⟨ZB, 2, none⟩ (.int .i64 c.nodes) fun h => stH h ⟨ZB, 3, none⟩ (.int .i64 c.level) fun h => stH h ⟨ZB, 4, none⟩ (.int .i64 c.batch) fun h => stH h ⟨ZB, 5, none⟩ (.int .i64 c.probes) fun h => stH h ⟨ZB, 6, none⟩ (.int .i64 c.scan) fun h => ldH h ⟨ZB, 0, none⟩ fun v0 => ldH h ⟨ZB, 1, none⟩ fun v1 => ldH h ⟨ZB, 2, none⟩ fun v2 => ldH h ⟨ZB, 3, none⟩ fun v3 => ldH h ⟨ZB, 4, none⟩ fun v4 => ldH h ⟨ZB, 5, none⟩ fun v5 => ldH h ⟨ZB, 6, none⟩ fun v6 => K (.tuple #[.agg #[v0, v1, v2, v3, v4, v5, v6], .bool b17]) h) := by
    intro b h' hb H'
    simp only [asBool_bool]
    have O := H'.at
    refine ⟨cellR O rfl, cellR O rfl, cellR O rfl, cellR O rfl, cellR O rfl, cellR O rfl, cellR O rfl, ?_⟩
    rw [star_left] at H'
    refine st7 (stN_full (vs := [.int .i64 0, .int .i64 c.threads, .int .i64 c.nodes, .int .i64 c.level, .int .i64 c.batch, .int .i64 c.probes, .int .i64 c.scan]) H'.at rfl (by simp [oneC]) fun h5 w => ?_)
    have H5 := H'.wr w.new w.old
    have OZ := H5.at
    refine ldR OZ rfl (ldR OZ rfl (ldR OZ rfl (ldR OZ rfl (ldR OZ rfl (ldR OZ rfl (ldR OZ rfl ?_))))))
    exact k b h5 hb H5.drop.drop
  refine callV_fn (rgt_call (c := { c with algo := 0 }) H3 (fun hc h' _ H' => ?_) fun hc h' _ H' => ?_)
  · exact both true h' hc H'
  · exact both false h' hc H'
theorem moundBlind_body {c0 c : Mod.Cf} {ca pa da : Option Addr} {cl cc0 pl pc0 dl dc0 : Nat} {calls : List (List Cl)} {picks draws : List Int} (H : Sat h R)
    (hS : ∀ h' P, Sat h' (P * R) → ScrI h' ca cl pa pl da dl calls picks draws) (hR : ScrR calls picks draws) (k : ∀ h', Sat h' R → K (.bool true) h') :
    CallH Tryz.prog 4 #[.agg #[.int .i64 c0.algo, .int .i64 c0.threads, .int .i64 c0.nodes, .int .i64 c0.level, .int .i64 c0.batch, .int .i64 c0.probes, .int .i64 c0.scan, .slice ca cl cc0, .slice pa pl pc0, .slice da dl dc0], .agg #[.int .i64 c.algo, .int .i64 c.threads, .int .i64 c.nodes, .int .i64 c.level, .int .i64 c.batch, .int .i64 c.probes, .int .i64 c.scan]] h K := by
  refine call4 ?_
  unfold F4 g4 cf ce
  have H1 := H.push (.cells #[.int .i64 c0.algo, .int .i64 c0.threads, .int .i64 c0.nodes, .int .i64 c0.level, .int .i64 c0.batch, .int .i64 c0.probes, .int .i64 c0.scan, .slice ca cl cc0, .slice pa pl pc0, .slice da dl dc0] 28)
  generalize h.push (.cells #[.int .i64 c0.algo, .int .i64 c0.threads, .int .i64 c0.nodes, .int .i64 c0.level, .int .i64 c0.batch, .int .i64 c0.probes, .int .i64 c0.scan, .slice ca cl cc0, .slice pa pl pc0, .slice da dl dc0] 28) = h1 at *
  generalize h.size = SB at *
  have H2 := H1.push (.cells #[.int .i64 c.algo, .int .i64 c.threads, .int .i64 c.nodes, .int .i64 c.level, .int .i64 c.batch, .int .i64 c.probes, .int .i64 c.scan] 23)
  generalize h1.push (.cells #[.int .i64 c.algo, .int .i64 c.threads, .int .i64 c.nodes, .int .i64 c.level, .int .i64 c.batch, .int .i64 c.probes, .int .i64 c.scan] 23) = h2 at *
  generalize h1.size = CB at *
  have lives : ∀ {h' : Heap} {P : Hp}, Sat h' (P * R) → CallH Tryz.prog 12 #[] h' fun v h'' => asBool v fun b => K (.bool b) h'' := by
    intro h' P H'
    refine lives21_call mound_DoC (MacOk.good mound_good) (MacOk.new rfl _ _) H' fun h'' H'' => ?_
    simp only [asBool_bool]
    exact k h'' H''.drop
  have O := H2.at
  refine ldR O rfl (ldR O rfl (ldR O rfl (ldR O rfl (ldR O rfl (ldR O rfl (ldR O rfl ?_))))))
  refine callV_fn (conf21_call H2 fun b h8 hc H8 => ?_)
  refine tp20 ?_
  refine ag7 ?_
  refine tp21 ?_
  simp only [asBool_bool]
  refine st7 (stN_full (vs := [.int .i64 0, .int .i64 c.threads, .int .i64 c.nodes, .int .i64 c.level, .int .i64 c.batch, .int .i64 c.probes, .int .i64 c.scan]) H8.at rfl (by simp [oneC]) fun h28 w => ?_)
  have H9 := H8.wr w.new w.old
  refine ifB_mk (fun _ => callV_fn (lives H9.drop)) (fun hb => ?_)
  have hb : b = true := by simpa using hb
  subst hb
  have B := planOf_B hc
  have hth : 1 ≤ c.threads ∧ c.threads ≤ 6 := B.th
  have OC := H9.at
  have OS := H9.at2
  refine ldR OS rfl (ldR OS rfl (ldR OS rfl (ldR OS rfl (ldR OS rfl (ldR OS rfl (ldR OS rfl (ldR OS rfl (ldR OS rfl (ldR OS rfl (ldR OC rfl (ldR OC rfl (ldR OC rfl (ldR OC rfl (ldR OC rfl (ldR OC rfl (ldR OC rfl ?_))))))))))))))))
  refine callV_fn (queue21_call H9 fun h50 H10 => ?_)
  refine ag2 ?_
  have OC := H10.at
  have OS := H10.at2
  repeat (first | refine ⟨cellR OS rfl, ?_⟩ | refine ⟨cellR OC rfl, ?_⟩)
  refine callV_fn (little_call (c := { c with algo := 0 }) (c0 := c0) (n := 4) (m := 2000) H10 (fun h' P H' => hS h' emp (by rw [emp_star]; exact H'.drop.drop.drop)) hth (by decide) (by decide) fun h55 ca' cc pa' pc da' dc ps H11 => ?_)
  refine ag10 ?_
  refine callV_fn (blind_call (c := { c with algo := 0 }) (ins := 11) mound_DoC (MacOk.good (c := { c with algo := 0 }) mound_good) (fun x => moundDo_un x) (by decide) hc (fun g => MacOk.new hc _ g) (scrL_ok hth hR (by decide) (by decide)) (callsL_len _ _ _) (by rw [List.length_take]; omega) (fun x hx => hR.dr x (List.mem_of_mem_take hx)) H11 (fun h' P H' => scrS_I H'.drop) fun h74 H13 => ?_)
  simp only [asBool_bool, ifB_true]
  exact callV_fn (lives H13.drop.drop)
end
end
end Go.Proofs.YtglgifgoojncpaaGreat
