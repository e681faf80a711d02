/- Part 12 of what the proofs of this seat rest on: see the last text of the claim. -/
import Derived.Test.YtglgifgoojncpaaGreatQ68f7cab4fd39
set_option linter.unusedSimpArgs false
set_option linter.unusedVariables false
set_option linter.ambiguousOpen false
set_option maxRecDepth 20000
namespace Go.Proofs.YtglgifgoojncpaaGreat
section
open Mod
def fA (sl th fn pc : Int) : Bool :=
  if fn = 4 then decide (pc < sl) else if fn = 5 then false else if fn = 6 then decide (pc < sl * th)
  else if fn = 10 then decide (pc = 0) else if fn = 14 then decide (pc ≠ 1) else if fn = 35 then decide (pc = 0) else if fn = 36 then decide (pc ≠ 1)
  else decide (pc ≠ 90)
def fW (fn pc : Int) : Nat :=
  if fn = 5 then 3 else if fn = 6 then 2
  else if fn = 20 then (if pc = 0 then 2 else 1)
  else if fn = 21 then (if pc = 17 then 6 else if pc = 8 ∨ pc = 1 ∨ pc = 12 then 3 else 2)
  else if fn = 22 ∨ fn = 23 then (if pc = 12 then 6 else if pc = 1 ∨ pc = 7 then 3 else 2)
  else if fn = 10 then (if pc = 0 then 2 else 1)
  else if fn = 11 then (if pc = 6 then 6 else if pc = 7 ∨ pc = 9 then 5 else if pc = 8 then 4 else if pc = 1 ∨ pc = 5 ∨ pc = 10 ∨ pc = 11 ∨ pc = 13 ∨ pc = 14 then 3 else 2)
  else if fn = 12 ∨ fn = 13 then (if pc = 6 then 6 else if pc = 1 then 4 else if pc = 0 then 3 else 2)
  else if fn = 14 then (if pc = 5 ∨ pc = 6 then 4 else if pc = 0 ∨ pc = 1 ∨ pc = 4 then 3 else 2)
  else if fn = 31 then (if pc = 16 then 4 else if pc = 1 ∨ pc = 7 ∨ pc = 11 ∨ pc = 12 then 3 else 2)
  else if fn = 32 ∨ fn = 33 then (if pc = 5 then 4 else if pc = 2 ∨ pc = 6 ∨ pc = 12 ∨ pc = 13 then 3 else 2)
  else if fn = 34 then (if pc = 2 ∨ pc = 4 then 3 else 2)
  else if fn = 35 then (if pc = 2 then 6 else 2)
  else if fn = 36 then (if pc = 4 then 3 else 2)
  else 1
def fR (fn : Int) : Nat := if fn ≤ 4 then 0 else if fn ≤ 6 then 1 else if fn = 10 then 2 else if fn = 14 ∨ fn = 35 then 3 else 4
theorem fR_le (fn : Int) : fR fn ≤ 4 := by unfold fR; repeat' split
                                           all_goals omega
theorem ite_rng {c : Prop} [Decidable c] {a b : Nat} (ha : 1 ≤ a ∧ a ≤ 6) (hb : 1 ≤ b ∧ b ≤ 6) : 1 ≤ (if c then a else b) ∧ (if c then a else b) ≤ 6 := by
  split
  · exact ha
  · exact hb
theorem fW_rng (fn pc : Int) : 1 ≤ fW fn pc ∧ fW fn pc ≤ 6 := by
  unfold fW
  repeat' (first | with_reducible apply ite_rng | exact ⟨by decide, by decide⟩)
section
variable (sl th : Int)
def muL : List Frm → Nat
  | [] => 0
  | f :: l => fW f.fn f.pc + if fA sl th f.fn f.pc = true then 0 else muL l
def onR (fn : Int) : List Frm → Prop
  | [] => True
  | f :: _ => fA sl th f.fn f.pc = true ∨ fR fn < fR f.fn
def adjL : List Frm → Prop
  | [] => True
  | f :: l => onR sl th f.fn l ∧ adjL l
theorem muL_le : ∀ {l : List Frm} {fn : Int}, onR sl th fn l → adjL sl th l → muL sl th l ≤ 6 * (5 - fR fn)
  | [], _, _, _ => Nat.zero_le _
  | f :: l, fn, h1, h2 => by
    unfold muL
    have hw := (fW_rng f.fn f.pc).2
    have hr := fR_le fn
    have hr2 := fR_le f.fn
    split
    · omega
    · rename_i c
      rcases h1 with h1 | h1
      · exact absurd h1 c
      · have ih := muL_le h2.1 h2.2
        omega
def rst (x : Run) : List Frm := x.t.fr.dropLast.reverse
def mu (x : Run) : Nat := muL sl th x.t.fr.reverse
structure Adj (x : Run) : Prop where
  a : adjL sl th x.t.fr.reverse
structure AdjR (fn : Int) (l : List Frm) (x : Run) : Prop where
  f : x.f.fn = fn
  e : rst x = l
  o : onR sl th fn l
  a : adjL sl th l
end
section
variable {sl th : Int} {x y : Run} {fn : Int} {l : List Frm}
theorem fr_rev (h : x.t.fr ≠ []) : x.t.fr.reverse = x.f :: rst x := by
  conv => lhs; rw [fr_split h]
  simp [rst, Run.f]
theorem Adj.r (h : Adj sl th x) (hne : x.t.fr ≠ []) : AdjR sl th x.f.fn (rst x) x := by
  have h := h.a
  rw [fr_rev hne] at h
  exact ⟨rfl, rfl, h.1, h.2⟩
theorem rst_setF (x : Run) (f : Frm) : rst (x.setF f) = rst x := by
  show (x.t.fr.dropLast ++ [f]).dropLast.reverse = _
  rw [List.dropLast_append_of_ne_nil (by simp)]
  simp [rst]
theorem AdjR.setF {f : Frm} (h : AdjR sl th fn l x) (hf : f.fn = fn) : AdjR sl th fn l (x.setF f) := ⟨by rw [f_setF]; exact hf, by rw [rst_setF]; exact h.e, h.o, h.a⟩
theorem AdjR.s {i : Nat} {v : Int} (h : AdjR sl th fn l x) : AdjR sl th fn l (x.s i v) := h.setF h.f
theorem AdjR.pc {i : Int} (h : AdjR sl th fn l x) : AdjR sl th fn l (x.pc i) := h.setF h.f
theorem AdjR.gh {f : Gh → Gh} (h : AdjR sl th fn l x) : AdjR sl th fn l (x.gh f) := ⟨h.f, h.e, h.o, h.a⟩
theorem AdjR.fo {k : List Int} (h : AdjR sl th fn l x) : AdjR sl th fn l (x.fo k) := ⟨h.f, h.e, h.o, h.a⟩
theorem AdjR.re {k : List Int} (h : AdjR sl th fn l x) : AdjR sl th fn l (x.re k) := ⟨h.f, h.e, h.o, h.a⟩
theorem AdjR.all (h : AdjR sl th fn l x) (hne : x.t.fr ≠ []) : Adj sl th x := by
  constructor
  rw [fr_rev hne]
  exact ⟨by rw [h.f, h.e]; exact h.o, by rw [h.e]; exact h.a⟩
theorem ne_setF (x : Run) (f : Frm) : (x.setF f).t.fr ≠ [] := by
  show x.t.fr.dropLast ++ [f] ≠ []
  simp
theorem Lo.adjR (h : Lo x y) (r : AdjR sl th fn l x) : AdjR sl th fn l y := by
  induction h with
  | refl => exact r
  | s _ ih => exact ih.s
  | pc _ ih => exact ih.pc
  | _ => rename_i ih; exact ⟨ih.f, ih.e, ih.o, ih.a⟩
theorem Lo.ne (h : Lo x y) (r : x.t.fr ≠ []) : y.t.fr ≠ [] := by
  induction h with
  | refl => exact r
  | s _ ih => exact ne_setF _ _
  | pc _ ih => exact ne_setF _ _
  | _ => rename_i ih; exact ih
theorem AdjR.allPc {i : Int} (h : AdjR sl th fn l x) : Adj sl th (x.pc i) := h.pc.all (ne_setF _ _)
theorem AdjR.allS {i : Nat} {v : Int} (h : AdjR sl th fn l x) : Adj sl th (x.s i v) := h.s.all (ne_setF _ _)
theorem AdjR.pop {r : List Int} (h : AdjR sl th fn l x) : Adj sl th (x.pop r) := by
  constructor
  show adjL sl th (x.t.pop r).fr.reverse
  unfold Thr.pop
  split
  · rename_i e; rw [e]; trivial
  · show adjL sl th (rst x)
    rw [h.e]; exact h.a
theorem Adj.push {i : Int} {r : List Int} (h : Adj sl th x) (ho : onR sl th i x.t.fr.reverse) : Adj sl th (x.push i r) := by
  constructor
  show adjL sl th (x.t.fr ++ [(⟨i, 0, pad 10 r⟩ : Frm)]).reverse
  rw [List.reverse_append]
  show adjL sl th (⟨i, 0, pad 10 r⟩ :: x.t.fr.reverse)
  exact ⟨ho, h.a⟩
theorem AdjR.call {i j : Int} {r : List Int} (h : AdjR sl th fn l x) (hd : fA sl th fn i = true ∨ fR j < fR fn) : Adj sl th (x.call i j r) := by
  refine Adj.push h.allPc ?_
  rw [show (x.pc i).t.fr.reverse = (x.pc i).f :: rst (x.pc i) from fr_rev (ne_setF _ _)]
  show fA sl th (x.pc i).f.fn (x.pc i).f.pc = true ∨ _ < fR (x.pc i).f.fn
  rw [f_pc, fn_at, pc_at, h.f]
  exact hd
theorem AdjR.fin {i j k : Int} (h : AdjR sl th fn l x) (hd : fR 4 < fR fn) : Adj sl th (x.fin i j k) := by
  unfold Run.fin
  exact (h.s.s.s).call (.inr hd)
structure Act (x : Run) : Prop where
  a : x.m.acted = true
theorem acted_touch (m : Mac) (a : Int) : (m.touch a).acted = true := by unfold Mac.touch; split <;> rfl
theorem Act.load {a : Int} : Act (x.load a).2 := by
  constructor
  show (x.m.load a).2.acted = true
  unfold Mac.load; dsimp only
  split <;> exact acted_touch _ _
theorem Act.store {a v : Int} : Act (x.store a v) := by
  constructor
  show (x.m.store a v).acted = true
  unfold Mac.store; dsimp only
  split <;> exact acted_touch _ _
theorem Act.cas {a o v : Int} : Act (x.cas a o v).2 := by
  constructor
  show (x.m.cas a o v).2.acted = true
  unfold Mac.cas; dsimp only
  split <;> exact acted_touch _ _
theorem Act.add {a v : Int} : Act (x.add a v).2 := by
  constructor
  show (x.m.add a v).2.acted = true
  unfold Mac.add; dsimp only
  split <;> exact acted_touch _ _
theorem Act.swing {a v w : Int} {b : Bool} : Act (x.swing a v w b).2 := Act.cas
theorem Act.swingA {a v w : Int} : Act (x.swingA a v w).2 := Act.cas
theorem Act.swingM {a v w : Int} {b : Bool} : Act (x.swingM a v w b).2 := Act.cas
theorem Act.drop1 {a : Int} : Act (x.drop1 a).2 := Act.add
theorem Act.guard {a b : Int} : Act (x.guard a b) := Act.store
theorem Act.dcas {a o n b p q : Int} : Act { x with m := (x.m.dcas a o n b p q).2 } := by
  constructor
  show (x.m.dcas a o n b p q).2.acted = true
  unfold Mac.dcas; dsimp only
  split <;> exact acted_touch _ _
theorem Act.dcss {a o n b p : Int} : Act { x with m := (x.m.dcss a o n b p).2 } := by
  constructor
  show (x.m.dcss a o n b p).2.acted = true
  unfold Mac.dcss; dsimp only
  split <;> exact acted_touch _ _
theorem Act.next {n : Int} (h : Act x) : Act { x with m := (x.m.next n).2 } := by
  constructor
  show (x.m.next n).2.acted = true
  unfold Mac.next
  split <;> exact h.a
theorem Act.lvl {n : Int} (h : Act x) : Act { x with m := (x.m.lvl n).2 } := by
  constructor
  show (x.m.lvl n).2.acted = true
  unfold Mac.lvl
  split <;> exact h.a
theorem Tch.act (h : Tch x) : Act x := by
  induction h with
  | load => exact Act.load
  | store => exact Act.store
  | cas => exact Act.cas
  | add => exact Act.add
  | swing => exact Act.swing
  | swingA => exact Act.swingA
  | swingM => exact Act.swingM
  | drop1 => exact Act.drop1
  | guard => exact Act.guard
  | dcas => exact Act.dcas
  | dcss => exact Act.dcss
  | next _ ih => exact ih.next
  | lvl _ ih => exact ih.lvl
  | _ => rename_i ih; exact ⟨ih.a⟩
theorem mu_top (h : x.t.fr ≠ []) : mu sl th x = fW x.f.fn x.f.pc + if fA sl th x.f.fn x.f.pc = true then 0 else muL sl th (rst x) := by
  unfold mu
  rw [fr_rev h]
  rfl
theorem mu_push (x : Run) (i : Int) (r : List Int) : mu sl th (x.push i r) = fW i 0 + if fA sl th i 0 = true then 0 else mu sl th x := by
  unfold mu
  show muL sl th (x.t.fr ++ [(⟨i, 0, pad 10 r⟩ : Frm)]).reverse = _
  rw [List.reverse_append]
  rfl
theorem mu_pop (r : List Int) (h : x.t.fr ≠ []) : mu sl th (x.pop r) = muL sl th (rst x) := by
  unfold mu
  show muL sl th (x.t.pop r).fr.reverse = _
  unfold Thr.pop
  rw [if_neg h]
  rfl
section
variable {x0 : Run} {pc0 : Int}
theorem AdjR.mu (h0 : AdjR sl th fn l x0) (hne : x0.t.fr ≠ []) (hp : x0.f.pc = pc0) : mu sl th x0 = fW fn pc0 + if fA sl th fn pc0 = true then 0 else muL sl th l := by
  rw [mu_top hne, h0.f, h0.e, hp]
theorem AdjR.muPc (h : AdjR sl th fn l y) (i : Int) : Proofs.YtglgifgoojncpaaGreat.mu sl th (y.pc i) = fW fn i + if fA sl th fn i = true then 0 else muL sl th l :=
  h.pc.mu (ne_setF _ _) (by rw [f_pc]; rfl)
theorem AdjR.ltPc {i : Int} (h0 : AdjR sl th fn l x0) (hne : x0.t.fr ≠ []) (hp : x0.f.pc = pc0) (h : AdjR sl th fn l y)
    (hlt : (fW fn i + if fA sl th fn i = true then 0 else muL sl th l) < fW fn pc0 + if fA sl th fn pc0 = true then 0 else muL sl th l) : Proofs.YtglgifgoojncpaaGreat.mu sl th (y.pc i) < Proofs.YtglgifgoojncpaaGreat.mu sl th x0 := by
  rw [h0.mu hne hp, h.muPc]
  exact hlt
theorem AdjR.ltCall {i j : Int} {r : List Int} (h0 : AdjR sl th fn l x0) (hne : x0.t.fr ≠ []) (hp : x0.f.pc = pc0) (h : AdjR sl th fn l y)
    (hlt : (fW j 0 + if fA sl th j 0 = true then 0 else fW fn i + if fA sl th fn i = true then 0 else muL sl th l) < fW fn pc0 + if fA sl th fn pc0 = true then 0 else muL sl th l) : Proofs.YtglgifgoojncpaaGreat.mu sl th (y.call i j r) < Proofs.YtglgifgoojncpaaGreat.mu sl th x0 := by
  show Proofs.YtglgifgoojncpaaGreat.mu sl th ((y.pc i).push j r) < _
  rw [h0.mu hne hp, mu_push, h.muPc]
  exact hlt
theorem AdjR.ltFin {i j k : Int} (h0 : AdjR sl th fn l x0) (hne : x0.t.fr ≠ []) (hp : x0.f.pc = pc0) (h : AdjR sl th fn l y)
    (hlt : (fW 4 0 + if fA sl th 4 0 = true then 0 else fW fn 90 + if fA sl th fn 90 = true then 0 else muL sl th l) < fW fn pc0 + if fA sl th fn pc0 = true then 0 else muL sl th l) : Proofs.YtglgifgoojncpaaGreat.mu sl th (y.fin i j k) < Proofs.YtglgifgoojncpaaGreat.mu sl th x0 :=
  h0.ltCall hne hp (h.s.s.s) hlt
theorem AdjR.ltPop {r : List Int} (h0 : AdjR sl th fn l x0) (hne : x0.t.fr ≠ []) (hp : x0.f.pc = pc0) (h : AdjR sl th fn l y) (hny : y.t.fr ≠ [])
    (hlt : muL sl th l < fW fn pc0 + if fA sl th fn pc0 = true then 0 else muL sl th l) : Proofs.YtglgifgoojncpaaGreat.mu sl th (y.pop r) < Proofs.YtglgifgoojncpaaGreat.mu sl th x0 := by
  rw [h0.mu hne hp, mu_pop r hny, h.e]
  exact hlt
end
def Nx (sl th : Int) (x y : Run) : Prop := Adj sl th y ∧ (Act y ∨ mu sl th y < mu sl th x)
end
end
section
open Mod
structure RunOk (Q : Mod.Cf → Frm → Prop) (c : Mod.Cf) (x : Run) (B : Nat) : Prop where
  p : x.m.p = planOf c
  q : AllF (Q c) x
  a : Adj (planOf c).slots c.threads x
  pr : (x.t.pred.length : Int) = c.level
  su : (x.t.succ.length : Int) = c.level
  wo : (x.t.word.length : Int) = c.level
  P : x.P ≤ B
structure DoOk (d : Run → Run) (Q : Mod.Cf → Frm → Prop) (W : Run → Prop) (ins : Int) : Prop where
  st : ∀ x, St 12 x (d x)
  all : ∀ c x, okC c = true → x.m.p = planOf c → x.t.fr ≠ [] → AllF (Q c) x → AllF (Q c) (d x)
  nx : ∀ c x, okC c = true → x.m.p = planOf c → x.t.fr ≠ [] → AllF (Q c) x → Adj (planOf c).slots c.threads x → Nx (planOf c).slots c.threads x (d x)
  w : ∀ c x B, okC c = true → RunOk Q c x B → B < 200000000 → x.t.fr ≠ [] → 0 ≤ x.id ∧ x.id ≤ 6 → W x
  new : ∀ c op l, okC c = true → 0 ≤ op ∧ op ≤ 2 → Q c ⟨ins + op, 0, pad 10 l⟩
section
variable {d : Run → Run} {Q : Mod.Cf → Frm → Prop} {W : Run → Prop} {ins : Int} {c : Mod.Cf}
theorem RunOk.mono {x : Run} {B C : Nat} (h : RunOk Q c x B) (hb : B ≤ C) : RunOk Q c x C := ⟨h.p, h.q, h.a, h.pr, h.su, h.wo, Nat.le_trans h.P hb⟩
theorem RunOk.bit (D : DoOk d Q W ins) (hc : okC c = true) {x : Run} {B : Nat} (h : RunOk Q c x B) (hne : x.t.fr ≠ []) : RunOk Q c (d x) (B + 24) ∧ Nx (planOf c).slots c.threads x (d x) := by
  have s := D.st x
  have f := s.fix
  have n := D.nx c x hc h.p hne h.q h.a
  have hP := s.P
  have := h.P
  exact ⟨⟨f.p.trans h.p, D.all c x hc h.p hne h.q, n.1, by rw [f.pr]; exact h.pr, by rw [f.su]; exact h.su, by rw [f.wo]; exact h.wo, by omega⟩, n⟩
theorem mu_le {sl th : Int} {x : Run} (h : Adj sl th x) : mu sl th x ≤ 36 := by
  by_cases hne : x.t.fr = []
  · unfold mu
    rw [hne]
    exact Nat.zero_le _
  · rw [mu_top hne]
    have r := h.r hne
    have h1 := muL_le sl th r.o r.a
    have h2 := (fW_rng x.f.fn x.f.pc).2
    split <;> omega
theorem bits_run (D : DoOk d Q W ins) (hc : okC c = true) : ∀ (n : Nat) (x : Run) (B : Nat), mu (planOf c).slots c.threads x ≤ n → RunOk Q c x B → B + 24 * (n + 1) < 200000000 → 0 ≤ x.id ∧ x.id ≤ 6 →
    ∃ k z, Mod.bits d k x = some z ∧ Safe d W k x ∧ Fix x z ∧ RunOk Q c z (B + 24 * (n + 1))
  | n, x, B, hm, h, hB, hid => by
    by_cases c0 : done x = true
    · refine ⟨0, x, ?_, trivial, ⟨rfl, rfl, rfl, rfl, rfl, rfl, rfl, rfl⟩, h.mono (by omega)⟩
      unfold Mod.bits
      unfold done at c0
      rw [if_pos c0]
    · have hne : x.t.fr ≠ [] := by
        intro e
        unfold done at c0
        rw [e] at c0
        simp at c0
      have hb : ∀ k, Mod.bits d (k + 1) x = Mod.bits d k (d x) := by
        intro k
        unfold done at c0
        conv => lhs; unfold Mod.bits
        rw [if_neg c0]
      obtain ⟨h1, n1⟩ := h.bit D hc hne
      have hw := D.w c x B hc h (by omega) hne hid
      have f := (D.st x).fix
      rcases n1.2 with a | lt
      · refine ⟨1, d x, ?_, .inr ⟨hw, trivial⟩, f, h1.mono (by omega)⟩
        rw [hb]
        unfold Mod.bits
        rw [a.a]
        rfl
      · cases n with
        | zero => omega
        | succ n =>
          obtain ⟨k, z, e1, e2, e3, e4⟩ := bits_run D hc n (d x) (B + 24) (by omega) h1 (by omega) (by rw [f.id]; exact hid)
          refine ⟨k + 1, z, by rw [hb]; exact e1, .inr ⟨hw, e2⟩, ⟨e3.p.trans f.p, e3.id.trans f.id, e3.th.trans f.th, e3.b.trans f.b, e3.w.trans f.w, e3.pr.trans f.pr, e3.su.trans f.su, e3.wo.trans f.wo⟩, e4.mono (by omega)⟩
structure ThrOk (Q : Mod.Cf → Frm → Prop) (c : Mod.Cf) (t : Thr) : Prop where
  q : ∀ f ∈ t.fr, Q c f
  a : adjL (planOf c).slots c.threads t.fr.reverse
  pr : (t.pred.length : Int) = c.level
  su : (t.succ.length : Int) = c.level
  wo : (t.word.length : Int) = c.level
def Mod.Thr.L (t : Thr) : Nat := t.retired.length + t.found.length + max t.fr.length 1
def sumL (l : List Thr) : Nat := (l.map Mod.Thr.L).sum
theorem sumL_set : ∀ {l : List Thr} {k : Nat} {t t' : Thr}, l[k]? = some t → sumL (l.set k t') + t.L = sumL l + t'.L
  | [], _, _, _, h => by simp at h
  | a :: l, 0, t, t', h => by
    simp only [List.getElem?_cons_zero, Option.some.injEq] at h
    subst h
    simp only [List.set_cons_zero, sumL, List.map_cons, List.sum_cons]
    omega
  | a :: l, k + 1, t, t', h => by
    simp only [List.getElem?_cons_succ] at h
    have ih := sumL_set (t' := t') h
    simp only [List.set_cons_succ, sumL, List.map_cons, List.sum_cons] at *
    omega
def Mod.Mac.T (m : Mac) : Nat := m.mm.st.toNat + m.used.toNat + sumL m.th
structure MacOk (Q : Mod.Cf → Frm → Prop) (c : Mod.Cf) (i : Nat) (m : Mac) : Prop where
  ok : okC c = true
  p : m.p = planOf c
  w : (m.mm.w.length : Int) = (planOf c).size
  n : m.th.length ≤ 6
  t : ∀ t ∈ m.th, ThrOk Q c t
  T : m.T ≤ 1000 * i + 2000
theorem MacOk.good (D : DoOk d Q W ins) : GoodI d W ins (MacOk Q c) where
  mono i m h := ⟨h.ok, h.p, h.w, h.n, h.t, Nat.le_trans h.T (by omega)⟩
  wd i m h := by
    have B := planOf_B h.ok
    have e : (m.mm.w.length : Int) = m.p.size := by rw [h.p]; exact h.w
    refine ⟨⟨by rw [h.p]; rfl, e⟩, ?_⟩
    have h1 := B.li
    have h2 := B.nd
    have h3 := B.tr
    have h4 := B.si
    rw [h.p] at e
    omega
  push i m k t cl h ht he ho hk hv := by
    have hm := List.mem_of_getElem? ht
    have o := h.t t hm
    refine ⟨h.ok, h.p, h.w, ?_, ?_, ?_⟩
    · show (m.th.set k _).length ≤ 6
      rw [List.length_set]; exact h.n
    · intro u hu
      rcases List.mem_or_eq_of_mem_set hu with hu | rfl
      · exact h.t u hu
      · refine ⟨?_, ?_, o.pr, o.su, o.wo⟩
        · intro f hf
          have hf : f ∈ t.fr ++ [⟨ins + cl.op, 0, pad 10 [cl.key, cl.val]⟩] := hf
          rw [he] at hf
          rw [List.mem_singleton.1 hf]
          exact D.new c cl.op _ h.ok ho
        · show adjL _ _ (t.fr ++ [(⟨ins + cl.op, 0, pad 10 [cl.key, cl.val]⟩ : Frm)]).reverse
          rw [he]
          exact ⟨trivial, trivial⟩
    · have e := sumL_set (t' := t.push (ins + cl.op) [cl.key, cl.val]) ht
      have e2 : (t.push (ins + cl.op) [cl.key, cl.val]).L = t.L := by
        show t.retired.length + t.found.length + max (t.fr ++ [_]).length 1 = t.retired.length + t.found.length + max t.fr.length 1
        rw [he]
        rfl
      have h2 : m.mm.st.toNat + m.used.toNat + sumL m.th ≤ 1000 * i + 2000 := h.T
      show m.mm.st.toNat + m.used.toNat + sumL (m.th.set k (t.push (ins + cl.op) [cl.key, cl.val])) ≤ _
      omega
  step i m k t h hi ht hne := by
    have hm := List.mem_of_getElem? ht
    have o := h.t t hm
    have hk := (List.getElem?_eq_some_iff.1 ht).1
    have hn := h.n
    have hL : 1 ≤ t.fr.length := List.length_pos_iff.2 hne
    have hT : m.mm.st.toNat + m.used.toNat + sumL m.th ≤ 1000 * i + 2000 := h.T
    have e0 := fun t' => sumL_set (t' := t') ht
    have e1 := e0 t
    have eT : t.L = t.retired.length + t.found.length + t.fr.length := by
      unfold Mod.Thr.L
      rw [Nat.max_eq_left hL]
    have hs : sumL (m.th.set k ⟨[], [], [], [], [], [], []⟩) + t.L = sumL m.th + 1 := e0 _
    have hR : RunOk Q c ⟨m.quiet, t, k⟩ (m.mm.st.toNat + m.used.toNat + t.L) := by
      refine ⟨h.p, ⟨o.q⟩, ⟨o.a⟩, o.pr, o.su, o.wo, ?_⟩
      show m.mm.st.toNat + m.used.toNat + t.retired.length + t.found.length + t.fr.length ≤ _
      omega
    obtain ⟨n, z, hb, hsf, f, hz⟩ := bits_run D h.ok 36 _ _ (mu_le hR.a) hR (by omega) ⟨by show (0 : Int) ≤ (k : Int); omega, by show (k : Int) ≤ 6; omega⟩
    refine ⟨n, z, hb, hsf, f.id, f.th, h.ok, ?_, ?_, ?_, ?_, ?_⟩
    · exact f.p.trans h.p
    · show (z.m.mm.w.length : Int) = _
      rw [f.w]
      exact h.w
    · show (m.th.set k z.t).length ≤ 6
      rw [List.length_set]; exact hn
    · intro u hu
      rcases List.mem_or_eq_of_mem_set hu with hu | rfl
      · exact h.t u hu
      · exact ⟨hz.q.a, hz.a.a, hz.pr, hz.su, hz.wo⟩
    · have e2 := e0 z.t
      have hP : z.m.mm.st.toNat + z.m.used.toNat + z.t.retired.length + z.t.found.length + z.t.fr.length ≤ _ := hz.P
      have hz2 : z.t.L ≤ z.t.retired.length + z.t.found.length + z.t.fr.length + 1 := by
        unfold Mod.Thr.L
        have : max z.t.fr.length 1 ≤ z.t.fr.length + 1 := Nat.max_le.2 ⟨by omega, by omega⟩
        omega
      show z.m.mm.st.toNat + z.m.used.toNat + sumL (m.th.set k z.t) ≤ _
      omega
theorem store_len (m : Mm) (a v : Int) : (m.store a v).w.length = m.w.length ∧ (m.store a v).st.toNat ≤ m.st.toNat + 1 := by
  unfold Mm.store
  split
  · exact ⟨by simp [Mm.tick, Mm.put], by show (m.st + 1).toNat ≤ _; omega⟩
  · exact ⟨rfl, by omega⟩
theorem stores_len (f : Nat → Int × Int) : ∀ (l : List Nat) (m : Mm), (l.foldl (fun (m : Mm) (i : Nat) => m.store (f i).1 (f i).2) m).w.length = m.w.length ∧ (l.foldl (fun (m : Mm) (i : Nat) => m.store (f i).1 (f i).2) m).st.toNat ≤ m.st.toNat + l.length
  | [], m => ⟨rfl, by simp⟩
  | i :: l, m => by
    have h1 := store_len m (f i).1 (f i).2
    have h2 := stores_len f l (m.store (f i).1 (f i).2)
    simp only [List.foldl_cons, List.length_cons]
    exact ⟨h2.1.trans h1.1, by omega⟩
theorem lay_len {c : Mod.Cf} (h : okC c = true) : ((lay (planOf c)).w.length : Int) = (planOf c).size ∧ (lay (planOf c)).st.toNat ≤ 200 := by
  have B := planOf_B h
  have b1 := B.no
  have b2 := B.lv
  have b3 := B.se
  have b4 := B.si
  have b5 := B.tr
  have b6 := B.nd
  have b7 := B.li
  unfold lay
  dsimp only
  generalize hm0 : (⟨List.replicate (planOf c).size.toNat 0, 0, false, []⟩ : Mm) = m0
  have h0 : (m0.w.length : Int) = (planOf c).size ∧ m0.st.toNat = 0 := by
    subst hm0
    exact ⟨by simp; omega, rfl⟩
  have h1 := store_len m0 0 (wpack ((planOf c).sent + 1) false 0)
  generalize m0.store 0 (wpack ((planOf c).sent + 1) false 0) = m1 at *
  have h2 := stores_len (fun i => ((planOf c).link ((planOf c).sent + 1 + i), (planOf c).sent + 1 + i + 1)) (List.range ((planOf c).c.nodes - ((planOf c).sent + 1)).toNat) m1
  rw [List.length_range] at h2
  generalize hm2 : (List.range ((planOf c).c.nodes - ((planOf c).sent + 1)).toNat).foldl (fun (m : Mm) (i : Nat) => m.store ((planOf c).link ((planOf c).sent + 1 + i)) ((planOf c).sent + 1 + i + 1)) m1 = m2
  have h2 : m2.w.length = m1.w.length ∧ m2.st.toNat ≤ m1.st.toNat + ((planOf c).c.nodes - ((planOf c).sent + 1)).toNat := by subst hm2; exact h2
  have h3 := store_len m2 2 1
  generalize m2.store 2 1 = m3 at *
  split
  · exact ⟨by omega, by omega⟩
  · have h4 := store_len m3 ((planOf c).node 1 3) (planOf c).c.level
    generalize m3.store ((planOf c).node 1 3) (planOf c).c.level = m4 at *
    have h5 := store_len m4 ((planOf c).node 2 0) 18446744073709551615
    generalize m4.store ((planOf c).node 2 0) 18446744073709551615 = m5 at *
    have h6 := stores_len (fun i => ((planOf c).node 1 (5 + i), wpack 2 false 0)) (List.range (planOf c).c.level.toNat) m5
    rw [List.length_range] at h6
    dsimp only at h6
    exact ⟨by omega, by omega⟩
theorem sumL_new (c : Mod.Cf) : ∀ n : Nat, sumL (List.replicate n (thr0 c)) = n
  | 0 => rfl
  | n + 1 => by
    have ih := sumL_new c n
    simp only [List.replicate_succ, sumL, List.map_cons, List.sum_cons] at *
    have : (thr0 c).L = 1 := rfl
    omega
theorem MacOk.new (hc : okC c = true) (b : List Int) (g : Bool) : MacOk Q c 0 (macNew c b g) := by
  have hl := lay_len hc
  have B := planOf_B hc
  have b1 : 1 ≤ c.threads ∧ c.threads ≤ 6 := B.th
  have b2 : 1 ≤ c.level ∧ c.level ≤ 6 := B.lv
  refine ⟨hc, rfl, hl.1, ?_, ?_, ?_⟩
  · show (List.replicate c.threads.toNat (thr0 c)).length ≤ 6
    rw [List.length_replicate]; omega
  · intro t ht
    have ht : t ∈ List.replicate c.threads.toNat (thr0 c) := ht
    rw [(List.mem_replicate.1 ht).2]
    refine ⟨fun f hf => (by cases hf), trivial, ?_, ?_, ?_⟩ <;> (show ((List.replicate c.level.toNat (0 : Int)).length : Int) = c.level; rw [List.length_replicate]; omega)
  · show (lay (planOf c)).st.toNat + (0 : Int).toNat + sumL (List.replicate c.threads.toNat (thr0 c)) ≤ _
    rw [sumL_new]
    have : (0 : Int).toNat = 0 := rfl
    omega
end
end
section
open Mod
section
variable {x : Run} {sl th : Int}
theorem alloc_Nx (hs : 0 < sl) (hne : x.t.fr ≠ []) (h : Adj sl th x) (e : x.f.fn = 1) : Nx sl th x (alloc x) := by
  have r := h.r hne
  rw [e] at r
  unfold alloc; dsimp only
  repeat' split
  all_goals (refine ⟨by ((with_reducible first | apply AdjR.pop | apply AdjR.allPc | apply AdjR.allS | apply AdjR.fin | apply AdjR.call | apply AdjR.all); (focus (refine Lo.adjR ?_ (by assumption); (with_reducible repeat' constructor))); try (first | decide | (refine .inr ?_; decide) | (refine .inl ?_; simp [fA]; done) | (refine Lo.ne ?_ hne; (with_reducible repeat' constructor)))), ?_⟩; first | (refine .inl ?_; (focus (refine Tch.act ?_; (with_reducible repeat' constructor))); done) | (refine .inr ?_; ((with_reducible first | apply AdjR.ltCall r hne | apply AdjR.ltFin r hne | apply AdjR.ltPc r hne | apply AdjR.ltPop r hne); assumption; (focus (refine Lo.adjR ?_ (by assumption); (with_reducible repeat' constructor))); try (first | assumption | exact ne_setF _ _)); simp +decide [fW, fA, hs]; first | done | omega))
theorem release_Nx (hs : 0 < sl) (hne : x.t.fr ≠ []) (h : Adj sl th x) (e : x.f.fn = 2) : Nx sl th x (release x) := by
  have r := h.r hne
  rw [e] at r
  unfold release; dsimp only
  repeat' split
  all_goals (refine ⟨by ((with_reducible first | apply AdjR.pop | apply AdjR.allPc | apply AdjR.allS | apply AdjR.fin | apply AdjR.call | apply AdjR.all); (focus (refine Lo.adjR ?_ (by assumption); (with_reducible repeat' constructor))); try (first | decide | (refine .inr ?_; decide) | (refine .inl ?_; simp [fA]; done) | (refine Lo.ne ?_ hne; (with_reducible repeat' constructor)))), ?_⟩; first | (refine .inl ?_; (focus (refine Tch.act ?_; (with_reducible repeat' constructor))); done) | (refine .inr ?_; ((with_reducible first | apply AdjR.ltCall r hne | apply AdjR.ltFin r hne | apply AdjR.ltPc r hne | apply AdjR.ltPop r hne); assumption; (focus (refine Lo.adjR ?_ (by assumption); (with_reducible repeat' constructor))); try (first | assumption | exact ne_setF _ _)); simp +decide [fW, fA, hs]; first | done | omega))
theorem protect_Nx (hs : 0 < sl) (hne : x.t.fr ≠ []) (h : Adj sl th x) (e : x.f.fn = 3) : Nx sl th x (protect x) := by
  have r := h.r hne
  rw [e] at r
  unfold protect; dsimp only
  repeat' split
  all_goals (refine ⟨by ((with_reducible first | apply AdjR.pop | apply AdjR.allPc | apply AdjR.allS | apply AdjR.fin | apply AdjR.call | apply AdjR.all); (focus (refine Lo.adjR ?_ (by assumption); (with_reducible repeat' constructor))); try (first | decide | (refine .inr ?_; decide) | (refine .inl ?_; simp [fA]; done) | (refine Lo.ne ?_ hne; (with_reducible repeat' constructor)))), ?_⟩; first | (refine .inl ?_; (focus (refine Tch.act ?_; (with_reducible repeat' constructor))); done) | (refine .inr ?_; ((with_reducible first | apply AdjR.ltCall r hne | apply AdjR.ltFin r hne | apply AdjR.ltPc r hne | apply AdjR.ltPop r hne); assumption; (focus (refine Lo.adjR ?_ (by assumption); (with_reducible repeat' constructor))); try (first | assumption | exact ne_setF _ _)); simp +decide [fW, fA, hs]; first | done | omega))
theorem wipe_Nx (hsl : sl = x.m.p.slots) (hs : 0 < sl) (hne : x.t.fr ≠ []) (h : Adj sl th x) (e : x.f.fn = 4) : Nx sl th x (wipe x) := by
  have r := h.r hne
  rw [e] at r
  unfold wipe; dsimp only
  split
  · rename_i c
    refine ⟨by ((with_reducible first | apply AdjR.pop | apply AdjR.allPc | apply AdjR.allS | apply AdjR.fin | apply AdjR.call | apply AdjR.all); (focus (refine Lo.adjR ?_ (by assumption); (with_reducible repeat' constructor))); try (first | decide | (refine .inr ?_; decide) | (refine .inl ?_; simp [fA]; done) | (refine Lo.ne ?_ hne; (with_reducible repeat' constructor)))), .inr (AdjR.ltPop r hne rfl r hne ?_)⟩
    have c2 : fA sl th 4 x.f.pc = false := by simp [fA]; omega
    rw [c2]
    simp [fW]
  · (refine ⟨by ((with_reducible first | apply AdjR.pop | apply AdjR.allPc | apply AdjR.allS | apply AdjR.fin | apply AdjR.call | apply AdjR.all); (focus (refine Lo.adjR ?_ (by assumption); (with_reducible repeat' constructor))); try (first | decide | (refine .inr ?_; decide) | (refine .inl ?_; simp [fA]; done) | (refine Lo.ne ?_ hne; (with_reducible repeat' constructor)))), ?_⟩; first | (refine .inl ?_; (focus (refine Tch.act ?_; (with_reducible repeat' constructor))); done) | (refine .inr ?_; ((with_reducible first | apply AdjR.ltCall r hne | apply AdjR.ltFin r hne | apply AdjR.ltPc r hne | apply AdjR.ltPop r hne); assumption; (focus (refine Lo.adjR ?_ (by assumption); (with_reducible repeat' constructor))); try (first | assumption | exact ne_setF _ _)); simp +decide [fW, fA, hs]; first | done | omega))
theorem pop_rev (y : Run) (r : List Int) (h : y.t.fr ≠ []) : (y.pop r).t.fr.reverse = rst y := by
  show (y.t.pop r).fr.reverse = _
  unfold Thr.pop
  rw [if_neg h]
  rfl
theorem retire_Nx (ha : 0 < sl * th) (hne : x.t.fr ≠ []) (h : Adj sl th x) (e : x.f.fn = 5) : Nx sl th x (retire x) := by
  have r := h.r hne
  rw [e] at r
  unfold retire; dsimp only
  generalize hz : ((x.gh fun g => g.turn (s64 (x.f.g 0)) 1 2 2).re ((x.gh fun g => g.turn (s64 (x.f.g 0)) 1 2 2).t.retired ++ [s64 (x.f.g 0)])) = z
  have hzn : z.t.fr ≠ [] := by subst hz; exact hne
  have rz : AdjR sl th 5 (rst x) z := by subst hz; exact r.gh.re
  have hm : mu sl th x = 3 + muL sl th (rst x) := by
    rw [r.mu hne rfl]
    simp [fW, fA]
  have hp : (z.pop []).t.fr.reverse = rst x := by rw [pop_rev _ _ hzn]; exact rz.e
  split
  · refine ⟨Adj.push rz.pop ?_, .inr ?_⟩
    · rw [hp]
      cases hl : rst x with
      | nil => trivial
      | cons f l =>
        have o := r.o
        rw [hl] at o
        exact o
    · rw [mu_push, hm]
      simp [fW, fA, ha]
      omega
  · refine ⟨rz.pop, .inr ?_⟩
    rw [mu_pop _ hzn, rz.e, hm]
    omega
theorem AdjR.push {fn i : Int} {l : List Frm} {r : List Int} {y : Run} (h : AdjR sl th fn l y) (hne : y.t.fr ≠ []) (hd : fR i < fR fn) : Adj sl th (y.push i r) := by
  refine Adj.push (h.all hne) ?_
  rw [fr_rev hne]
  exact .inr (by rw [h.f]; exact hd)
theorem scan_Nx (hsl : sl = x.m.p.slots) (hth : th = x.m.p.c.threads) (hne : x.t.fr ≠ []) (h : Adj sl th x) (e : x.f.fn = 6) : Nx sl th x (scan x) := by
  have r := h.r hne
  rw [e] at r
  have h0 : ∀ y : Run, y = (if x.f.pc = 0 then x.fo [] else x) → AdjR sl th 6 (rst x) y ∧ y.t.fr ≠ [] ∧ y.f.pc = x.f.pc := by
    rintro y rfl
    split
    · exact ⟨r.fo, hne, rfl⟩
    · exact ⟨r, hne, rfl⟩
  unfold scan
  dsimp only
  generalize hy : (if x.f.pc = 0 then x.fo [] else x) = y
  obtain ⟨ry, hny, hpc⟩ := h0 y hy.symm
  rw [← hsl, ← hth]
  split
  · exact ⟨by ((with_reducible first | apply AdjR.pop | apply AdjR.allPc | apply AdjR.allS | apply AdjR.fin | apply AdjR.call | apply AdjR.all); (focus (refine Lo.adjR ?_ (by assumption); (with_reducible repeat' constructor))); try (first | decide | (refine .inr ?_; decide) | (refine .inl ?_; simp [fA]; done) | (refine Lo.ne ?_ hne; (with_reducible repeat' constructor)))), .inl (by (focus (refine Tch.act ?_; (with_reducible repeat' constructor))))⟩
  · rename_i c
    have hm : mu sl th x = 2 + muL sl th (rst x) := by
      rw [r.mu hne rfl]
      have c2 : fA sl th 6 x.f.pc = false := by simp [fA]; omega
      rw [c2]
      simp [fW]
    have hA : AdjR sl th 6 (rst x) (scanA y (sl * th)) ∧ (scanA y (sl * th)).t.fr ≠ [] := by
      unfold scanA
      split
      · exact ⟨by (focus (refine Lo.adjR ?_ (by assumption); (with_reducible repeat' constructor))), ne_setF _ _⟩
      · exact ⟨ry, hny⟩
    generalize scanA y (sl * th) = z at *
    obtain ⟨rz, hzn⟩ := hA
    unfold scanB
    split
    · refine ⟨rz.pop, .inr ?_⟩
      rw [mu_pop _ hzn, rz.e, hm]
      omega
    · rename_i n rest e2
      refine ⟨AdjR.push (l := rst x) (fn := 6) (by (focus (refine Lo.adjR ?_ (by assumption); (with_reducible repeat' constructor)))) hzn (by decide), .inr ?_⟩
      rw [mu_push, hm]
      simp [fW, fA]
      omega
theorem arenaDo_Nx (hs : 0 < sl) (hne : x.t.fr ≠ []) (h : Adj sl th x) (e : x.f.fn = 1 ∨ x.f.fn = 2) : Nx sl th x (arenaDo x) := by
  unfold arenaDo
  rw [if_neg hne]
  rcases e with e | e
  · rw [if_pos e]; exact alloc_Nx hs hne h e
  · rw [if_neg (by omega), if_pos e]; exact release_Nx hs hne h e
theorem hazardDo_Nx (hsl : sl = x.m.p.slots) (hth : th = x.m.p.c.threads) (hs : 0 < sl) (ha : 0 < sl * th) (hne : x.t.fr ≠ []) (h : Adj sl th x) (e : 1 ≤ x.f.fn ∧ x.f.fn ≤ 6) : Nx sl th x (hazardDo x) := by
  unfold hazardDo
  rw [if_neg hne]
  by_cases e3 : x.f.fn = 3
  · rw [if_pos e3]; exact protect_Nx hs hne h e3
  rw [if_neg e3]
  by_cases e4 : x.f.fn = 4
  · rw [if_pos e4]; exact wipe_Nx hsl hs hne h e4
  rw [if_neg e4]
  by_cases e5 : x.f.fn = 5
  · rw [if_pos e5]; exact retire_Nx ha hne h e5
  rw [if_neg e5]
  by_cases e6 : x.f.fn = 6
  · rw [if_pos e6]; exact scan_Nx hsl hth hne h e6
  rw [if_neg e6]
  exact arenaDo_Nx hs hne h (by omega)
end
end
section
open Mod
theorem lev_rng (c : Int) : ∀ (k i : Nat), (i : Int) ≤ lev c k i ∧ lev c k i ≤ i + k ∧ (1 ≤ k → (i : Int) + 1 ≤ lev c k i)
  | 0, i => by unfold lev; omega
  | k + 1, i => by
    have ih := lev_rng c k (i + 1)
    unfold lev
    split <;> omega
theorem lvl_rng (m : Mac) {n : Int} (h : 1 ≤ n) : 1 ≤ (m.lvl n).1 ∧ (m.lvl n).1 ≤ n := by
  unfold Mac.lvl
  rw [if_neg (by omega)]
  have := lev_rng m.take.1 n.toNat 0
  show 1 ≤ lev m.take.1 n.toNat 0 ∧ lev m.take.1 n.toNat 0 ≤ n
  omega
def SuOk (L sl th : Int) (f : Frm) : Prop := HzOk sl th f ∨ f.r.length = 10 ∧ (f.fn = 21 ∧ (0 ≤ f.pc ∧ f.pc ≤ 17 ∨ f.pc = 90) ∧ (3 ≤ f.pc → f.pc ≤ 14 → 1 ≤ f.g 3 ∧ f.g 3 ≤ L) ∧ (f.pc = 9 ∨ f.pc = 10 ∨ f.pc = 13 ∨ f.pc = 14 → 0 ≤ f.g 5 ∧ f.g 5 < f.g 3) ∧ (f.pc = 12 → 0 ≤ f.g 5) ∨
  (f.fn = 22 ∨ f.fn = 23) ∧ (0 ≤ f.pc ∧ f.pc ≤ 13 ∨ f.pc = 90) ∨ f.fn = 20 ∧ 0 ≤ f.pc ∧ f.pc ≤ 8 ∧ (f.pc ≠ 0 → 0 ≤ s64 (f.g 1) ∧ s64 (f.g 1) < L))
theorem su_new {L sl th fn : Int} {l : List Int} (h : 1 ≤ fn ∧ fn ≤ 6 ∨ 20 ≤ fn ∧ fn ≤ 23) (hs : 0 ≤ sl) (ht : 0 ≤ sl * th) : SuOk L sl th ⟨fn, 0, pad 10 l⟩ := by
  by_cases c : fn ≤ 6
  · exact .inl (hz_new (by omega) hs ht)
  · refine .inr ⟨pad_len _ _, ?_⟩
    dsimp only
    omega
theorem su_21 {L sl th : Int} {f : Frm} (h : SuOk L sl th f) (e : f.fn = 21) : f.r.length = 10 ∧ (0 ≤ f.pc ∧ f.pc ≤ 17 ∨ f.pc = 90) ∧ (3 ≤ f.pc → f.pc ≤ 14 → 1 ≤ f.g 3 ∧ f.g 3 ≤ L) ∧ (f.pc = 9 ∨ f.pc = 10 ∨ f.pc = 13 ∨ f.pc = 14 → 0 ≤ f.g 5 ∧ f.g 5 < f.g 3) ∧ (f.pc = 12 → 0 ≤ f.g 5) := by
  unfold SuOk HzOk at h
  rcases h with ⟨h0, h1⟩ | ⟨h0, h1⟩
  · exact ⟨h0, by omega, by omega, by omega, by omega⟩
  · refine ⟨h0, ?_⟩
    rcases h1 with h1 | h1 | h1
    · exact h1.2
    · omega
    · omega
theorem su_22 {L sl th : Int} {f : Frm} (h : SuOk L sl th f) (e : f.fn = 22 ∨ f.fn = 23) : f.r.length = 10 ∧ (0 ≤ f.pc ∧ f.pc ≤ 13 ∨ f.pc = 90) := by
  unfold SuOk HzOk at h
  rcases h with ⟨h0, h1⟩ | ⟨h0, h1⟩
  · exact ⟨h0, by omega⟩
  · refine ⟨h0, ?_⟩
    rcases h1 with h1 | h1 | h1
    · omega
    · exact h1.2
    · omega
theorem su_20 {L sl th : Int} {f : Frm} (h : SuOk L sl th f) (e : f.fn = 20) : f.r.length = 10 ∧ 0 ≤ f.pc ∧ f.pc ≤ 8 ∧ (f.pc ≠ 0 → 0 ≤ s64 (f.g 1) ∧ s64 (f.g 1) < L) := by
  unfold SuOk HzOk at h
  rcases h with ⟨h0, h1⟩ | ⟨h0, h1⟩
  · exact ⟨h0, by omega, by omega, by omega⟩
  · refine ⟨h0, ?_⟩
    rcases h1 with h1 | h1 | h1
    · omega
    · omega
    · exact h1.2
theorem su_hz {L sl th : Int} {f : Frm} (h : SuOk L sl th f) (e : ¬ (20 ≤ f.fn ∧ f.fn ≤ 23)) : HzOk sl th f := by
  unfold SuOk at h
  rcases h with h | ⟨_, h⟩
  · exact h
  · omega
section
variable {x : Run} {L sl th : Int}
theorem f_drop1 (x : Run) (a : Int) : (x.drop1 a).2.f = x.f := rfl
theorem f_swingA (x : Run) (a b c : Int) : (x.swingA a b c).2.f = x.f := rfl
theorem siLeave_All (h : AllF (SuOk L sl th) x) (hL : L = x.m.p.c.level) (hl : 1 ≤ L ∧ L ≤ 6) (s0 : 0 ≤ sl) (t0 : 0 ≤ sl * th) (o : SuOk L sl th x.f) (e : x.f.fn = 21) : AllF (SuOk L sl th) (siLeave x) := by
  have r := h.rest
  obtain ⟨len, o1, o2, o3, o4⟩ := su_21 o e
  unfold siLeave; dsimp only
  repeat' split
  all_goals ((repeat (with_reducible first | apply AllF.load | apply AllF.store | apply AllF.cas | apply AllF.add | apply AllF.swing | apply AllF.swingA | apply AllF.swingM | apply AllF.drop1 | apply AllF.guard | apply AllF.gh | apply AllF.fo | apply AllF.re | apply AllF.setPl)); first | with_reducible assumption | ((with_reducible first | apply Rest.pop | apply Rest.call | apply Rest.allPc | apply Rest.allS | apply Rest.fin); (focus (refine Lo.rest ?_ (by assumption); (with_reducible repeat' constructor)))))
  · ((try simp only [f_pc, f_s, f_load, f_store, f_cas, f_add, f_gh, f_drop1, f_swingA]); refine .inr ⟨(by simp only [at_len, s_len]; omega), .inl ⟨?_, ?_, ?_, ?_, ?_⟩⟩ <;> intros <;> (try simp +decide (disch := first | decide | assumption | (simp only [at_len, s_len]; assumption)) only [fn_at, fn_s, pc_at, pc_s, g_at, g_s_ne, g_s, at_len, s_len] at *) <;> omega)
  · exact su_new (by omega) s0 t0
  · ((try simp only [f_pc, f_s, f_load, f_store, f_cas, f_add, f_gh, f_drop1, f_swingA]); refine .inr ⟨(by simp only [at_len, s_len]; omega), .inl ⟨?_, ?_, ?_, ?_, ?_⟩⟩ <;> intros <;> (try simp +decide (disch := first | decide | assumption | (simp only [at_len, s_len]; assumption)) only [fn_at, fn_s, pc_at, pc_s, g_at, g_s_ne, g_s, at_len, s_len] at *) <;> omega)
  · ((try simp only [f_pc, f_s, f_load, f_store, f_cas, f_add, f_gh, f_drop1, f_swingA]); refine .inr ⟨(by simp only [at_len, s_len]; omega), .inl ⟨?_, ?_, ?_, ?_, ?_⟩⟩ <;> intros <;> (try simp +decide (disch := first | decide | assumption | (simp only [at_len, s_len]; assumption)) only [fn_at, fn_s, pc_at, pc_s, g_at, g_s_ne, g_s, at_len, s_len] at *) <;> omega)
  · exact su_new (by omega) s0 t0
  · ((try simp only [f_pc, f_s, f_load, f_store, f_cas, f_add, f_gh, f_drop1, f_swingA]); refine .inr ⟨(by simp only [at_len, s_len]; omega), .inl ⟨?_, ?_, ?_, ?_, ?_⟩⟩ <;> intros <;> (try simp +decide (disch := first | decide | assumption | (simp only [at_len, s_len]; assumption)) only [fn_at, fn_s, pc_at, pc_s, g_at, g_s_ne, g_s, at_len, s_len] at *) <;> omega)
  · exact su_new (by omega) s0 t0
theorem siLay_All (h : AllF (SuOk L sl th) x) (hL : L = x.m.p.c.level) (hl : 1 ≤ L ∧ L ≤ 6) (s0 : 0 ≤ sl) (t0 : 0 ≤ sl * th) (o : SuOk L sl th x.f) (e : x.f.fn = 21) (hp : 3 ≤ x.f.pc ∧ x.f.pc ≤ 7) : AllF (SuOk L sl th) (siLay x) := by
  have r := h.rest
  obtain ⟨len, o1, o2, o3, o4⟩ := su_21 o e
  have u5 : 0 ≤ Mod.u64 (x.f.g 5 + 1) := by unfold Mod.u64; omega
  unfold siLay; dsimp only
  repeat' split
  all_goals ((repeat (with_reducible first | apply AllF.load | apply AllF.store | apply AllF.cas | apply AllF.add | apply AllF.swing | apply AllF.swingA | apply AllF.swingM | apply AllF.drop1 | apply AllF.guard | apply AllF.gh | apply AllF.fo | apply AllF.re | apply AllF.setPl)); first | with_reducible assumption | ((with_reducible first | apply Rest.pop | apply Rest.call | apply Rest.allPc | apply Rest.allS | apply Rest.fin); (focus (refine Lo.rest ?_ (by assumption); (with_reducible repeat' constructor)))))
  all_goals first | exact su_new (by omega) s0 t0 | ((try simp only [f_pc, f_s, f_load, f_store, f_cas, f_add, f_gh, f_drop1, f_swingA]); refine .inr ⟨(by simp only [at_len, s_len]; omega), .inl ⟨?_, ?_, ?_, ?_, ?_⟩⟩ <;> intros <;> (try simp +decide (disch := first | decide | assumption | (simp only [at_len, s_len]; assumption)) only [fn_at, fn_s, pc_at, pc_s, g_at, g_s_ne, g_s, at_len, s_len] at *) <;> omega)
theorem siClimb_All (h : AllF (SuOk L sl th) x) (hL : L = x.m.p.c.level) (hl : 1 ≤ L ∧ L ≤ 6) (s0 : 0 ≤ sl) (t0 : 0 ≤ sl * th) (o : SuOk L sl th x.f) (e : x.f.fn = 21) (hp : 12 ≤ x.f.pc ∧ x.f.pc ≤ 14) : AllF (SuOk L sl th) (siClimb x) := by
  have r := h.rest
  obtain ⟨len, o1, o2, o3, o4⟩ := su_21 o e
  have u5 : 0 ≤ Mod.u64 (x.f.g 5 + 1) := by unfold Mod.u64; omega
  unfold siClimb; dsimp only
  repeat' split
  all_goals ((repeat (with_reducible first | apply AllF.load | apply AllF.store | apply AllF.cas | apply AllF.add | apply AllF.swing | apply AllF.swingA | apply AllF.swingM | apply AllF.drop1 | apply AllF.guard | apply AllF.gh | apply AllF.fo | apply AllF.re | apply AllF.setPl)); first | with_reducible assumption | ((with_reducible first | apply Rest.pop | apply Rest.call | apply Rest.allPc | apply Rest.allS | apply Rest.fin); (focus (refine Lo.rest ?_ (by assumption); (with_reducible repeat' constructor)))))
  all_goals first | exact su_new (by omega) s0 t0 | ((try simp only [f_pc, f_s, f_load, f_store, f_cas, f_add, f_gh, f_drop1, f_swingA]); refine .inr ⟨(by simp only [at_len, s_len]; omega), .inl ⟨?_, ?_, ?_, ?_, ?_⟩⟩ <;> intros <;> (try simp +decide (disch := first | decide | assumption | (simp only [at_len, s_len]; assumption)) only [fn_at, fn_s, pc_at, pc_s, g_at, g_s_ne, g_s, at_len, s_len] at *) <;> omega)
theorem siEnter_All (h : AllF (SuOk L sl th) x) (hL : L = x.m.p.c.level) (hl : 1 ≤ L ∧ L ≤ 6) (s0 : 0 ≤ sl) (t0 : 0 ≤ sl * th) (o : SuOk L sl th x.f) (e : x.f.fn = 21) (hp : 8 ≤ x.f.pc ∧ x.f.pc ≤ 11) : AllF (SuOk L sl th) (siEnter x) := by
  have r := h.rest
  obtain ⟨len, o1, o2, o3, o4⟩ := su_21 o e
  have u5 : 0 ≤ Mod.u64 (x.f.g 5 + 1) := by unfold Mod.u64; omega
  have g3 := o2 (by omega) (by omega)
  unfold siEnter; dsimp only
  repeat' split
  all_goals ((repeat (with_reducible first | apply AllF.load | apply AllF.store | apply AllF.cas | apply AllF.add | apply AllF.swing | apply AllF.swingA | apply AllF.swingM | apply AllF.drop1 | apply AllF.guard | apply AllF.gh | apply AllF.fo | apply AllF.re | apply AllF.setPl)); first | with_reducible assumption | ((with_reducible first | apply Rest.pop | apply Rest.call | apply Rest.allPc | apply Rest.allS | apply Rest.fin); (focus (refine Lo.rest ?_ (by assumption); (with_reducible repeat' constructor)))))
  all_goals first | exact su_new (by omega) s0 t0 | ((try simp only [f_pc, f_s, f_load, f_store, f_cas, f_add, f_gh, f_drop1, f_swingA]); refine .inr ⟨(by simp only [at_len, s_len]; omega), .inl ⟨?_, ?_, ?_, ?_, ?_⟩⟩ <;> intros <;> (try simp +decide (disch := first | decide | assumption | (simp only [at_len, s_len]; assumption)) only [fn_at, fn_s, pc_at, pc_s, g_at, g_s_ne, g_s, at_len, s_len] at *) <;> omega) | skip
  rw [f_s]
  have e3 : ((x.f.s 5 0).at 9).g 3 = x.f.g 3 := by rw [g_at, g_s_ne _ (by decide)]
  have e5 : ((x.f.s 5 0).at 9).g 5 = 0 := by rw [g_at, g_s len (by decide)]
  refine .inr ⟨by rw [at_len, s_len]; exact len, .inl ⟨e, .inl ⟨by rw [pc_at]; omega, by rw [pc_at]; omega⟩, fun _ _ => by rw [e3]; exact g3, fun _ => by rw [e3, e5]; omega, fun _ => by rw [e5]; omega⟩⟩
theorem su22_of {f : Frm} (len : f.r.length = 10) (e : f.fn = 22 ∨ f.fn = 23) (hp : 0 ≤ f.pc ∧ f.pc ≤ 13 ∨ f.pc = 90) : SuOk L sl th f := .inr ⟨len, .inr (.inl ⟨e, hp⟩)⟩
theorem srLook_All (h : AllF (SuOk L sl th) x) (s0 : 0 ≤ sl) (t0 : 0 ≤ sl * th) (o : SuOk L sl th x.f) (e : x.f.fn = 22 ∨ x.f.fn = 23) : AllF (SuOk L sl th) (srLook x) := by
  have r := h.rest
  obtain ⟨len, o1⟩ := su_22 o e
  unfold srLook srPair; dsimp only
  repeat' split
  all_goals ((repeat (with_reducible first | apply AllF.load | apply AllF.store | apply AllF.cas | apply AllF.add | apply AllF.swing | apply AllF.swingA | apply AllF.swingM | apply AllF.drop1 | apply AllF.guard | apply AllF.gh | apply AllF.fo | apply AllF.re | apply AllF.setPl)); first | with_reducible assumption | ((with_reducible first | apply Rest.pop | apply Rest.call | apply Rest.allPc | apply Rest.allS | apply Rest.fin); (focus (refine Lo.rest ?_ (by assumption); (with_reducible repeat' constructor)))))
  all_goals first | exact su_new (by omega) s0 t0 | ((try simp only [f_pc, f_s, f_load, f_store, f_cas, f_add, f_gh, f_drop1, f_swingA]); exact su22_of (by simp only [at_len, s_len]; assumption) (by simp only [fn_at, fn_s]; assumption) (.inr rfl)) | ((try simp only [f_pc, f_s, f_load, f_store, f_cas, f_add, f_gh, f_drop1, f_swingA]); refine su22_of (by simp only [at_len, s_len]; assumption) (by simp only [fn_at, fn_s]; assumption) (by simp only [pc_at, pc_s]; omega))
theorem srBury_All (h : AllF (SuOk L sl th) x) (s0 : 0 ≤ sl) (t0 : 0 ≤ sl * th) (o : SuOk L sl th x.f) (e : x.f.fn = 22 ∨ x.f.fn = 23) : AllF (SuOk L sl th) (srBury x) := by
  have r := h.rest
  obtain ⟨len, o1⟩ := su_22 o e
  unfold srBury; dsimp only
  repeat' split
  all_goals ((repeat (with_reducible first | apply AllF.load | apply AllF.store | apply AllF.cas | apply AllF.add | apply AllF.swing | apply AllF.swingA | apply AllF.swingM | apply AllF.drop1 | apply AllF.guard | apply AllF.gh | apply AllF.fo | apply AllF.re | apply AllF.setPl)); first | with_reducible assumption | ((with_reducible first | apply Rest.pop | apply Rest.call | apply Rest.allPc | apply Rest.allS | apply Rest.fin); (focus (refine Lo.rest ?_ (by assumption); (with_reducible repeat' constructor)))))
  all_goals first | exact su_new (by omega) s0 t0 | ((try simp only [f_pc, f_s, f_load, f_store, f_cas, f_add, f_gh, f_drop1, f_swingA]); exact su22_of (by simp only [at_len, s_len]; assumption) (by simp only [fn_at, fn_s]; assumption) (.inr rfl)) | ((try simp only [f_pc, f_s, f_load, f_store, f_cas, f_add, f_gh, f_drop1, f_swingA]); refine su22_of (by simp only [at_len, s_len]; assumption) (by simp only [fn_at, fn_s]; assumption) (by simp only [pc_at, pc_s]; omega))
theorem srMark_All (h : AllF (SuOk L sl th) x) (s0 : 0 ≤ sl) (t0 : 0 ≤ sl * th) (o : SuOk L sl th x.f) (e : x.f.fn = 22 ∨ x.f.fn = 23) : AllF (SuOk L sl th) (srMark x) := by
  have r := h.rest
  obtain ⟨len, o1⟩ := su_22 o e
  unfold srMark; dsimp only
  repeat' split
  all_goals ((repeat (with_reducible first | apply AllF.load | apply AllF.store | apply AllF.cas | apply AllF.add | apply AllF.swing | apply AllF.swingA | apply AllF.swingM | apply AllF.drop1 | apply AllF.guard | apply AllF.gh | apply AllF.fo | apply AllF.re | apply AllF.setPl)); first | with_reducible assumption | ((with_reducible first | apply Rest.pop | apply Rest.call | apply Rest.allPc | apply Rest.allS | apply Rest.fin); (focus (refine Lo.rest ?_ (by assumption); (with_reducible repeat' constructor)))))
  all_goals first | exact su_new (by omega) s0 t0 | ((try simp only [f_pc, f_s, f_load, f_store, f_cas, f_add, f_gh, f_drop1, f_swingA]); exact su22_of (by simp only [at_len, s_len]; assumption) (by simp only [fn_at, fn_s]; assumption) (.inr rfl)) | ((try simp only [f_pc, f_s, f_load, f_store, f_cas, f_add, f_gh, f_drop1, f_swingA]); refine su22_of (by simp only [at_len, s_len]; assumption) (by simp only [fn_at, fn_s]; assumption) (by simp only [pc_at, pc_s]; omega))
theorem srLeave_All (h : AllF (SuOk L sl th) x) (s0 : 0 ≤ sl) (t0 : 0 ≤ sl * th) (o : SuOk L sl th x.f) (e : x.f.fn = 22 ∨ x.f.fn = 23) : AllF (SuOk L sl th) (srLeave x) := by
  have r := h.rest
  obtain ⟨len, o1⟩ := su_22 o e
  unfold srLeave srPair; dsimp only
  repeat' split
  all_goals ((repeat (with_reducible first | apply AllF.load | apply AllF.store | apply AllF.cas | apply AllF.add | apply AllF.swing | apply AllF.swingA | apply AllF.swingM | apply AllF.drop1 | apply AllF.guard | apply AllF.gh | apply AllF.fo | apply AllF.re | apply AllF.setPl)); first | with_reducible assumption | ((with_reducible first | apply Rest.pop | apply Rest.call | apply Rest.allPc | apply Rest.allS | apply Rest.fin); (focus (refine Lo.rest ?_ (by assumption); (with_reducible repeat' constructor)))))
  all_goals first | exact su_new (by omega) s0 t0 | ((try simp only [f_pc, f_s, f_load, f_store, f_cas, f_add, f_gh, f_drop1, f_swingA]); exact su22_of (by simp only [at_len, s_len]; assumption) (by simp only [fn_at, fn_s]; assumption) (.inr rfl)) | ((try simp only [f_pc, f_s, f_load, f_store, f_cas, f_add, f_gh, f_drop1, f_swingA]); refine su22_of (by simp only [at_len, s_len]; assumption) (by simp only [fn_at, fn_s]; assumption) (by simp only [pc_at, pc_s]; omega))
end
end
section
set_option maxHeartbeats 1000000
open Mod
section
variable {x : Run} {L sl th : Int}
theorem fSettle_Adj {y : Run} {l : List Frm} (r : AdjR sl th 20 l y) : Adj sl th (fSettle y) := by
  unfold fSettle; dsimp only
  split
  all_goals ((with_reducible first | apply AdjR.pop | apply AdjR.allPc | apply AdjR.allS | apply AdjR.fin | apply AdjR.call | apply AdjR.all); (focus (refine Lo.adjR ?_ (by assumption); (with_reducible repeat' constructor))); try (first | decide | (refine .inr ?_; decide) | (refine .inl ?_; simp [fA]; done) | (refine Lo.ne ?_ hne; (with_reducible repeat' constructor))))
theorem fTake_Adj {y : Run} {l : List Frm} {w : Int} (r : AdjR sl th 20 l y) : Adj sl th (fTake y w) := by
  unfold fTake; dsimp only
  repeat' split
  · ((with_reducible first | apply AdjR.pop | apply AdjR.allPc | apply AdjR.allS | apply AdjR.fin | apply AdjR.call | apply AdjR.all); (focus (refine Lo.adjR ?_ (by assumption); (with_reducible repeat' constructor))); try (first | decide | (refine .inr ?_; decide) | (refine .inl ?_; simp [fA]; done) | (refine Lo.ne ?_ hne; (with_reducible repeat' constructor))))
  · exact fSettle_Adj (l := l) (by (focus (refine Lo.adjR ?_ (by assumption); (with_reducible repeat' constructor))))
  · ((with_reducible first | apply AdjR.pop | apply AdjR.allPc | apply AdjR.allS | apply AdjR.fin | apply AdjR.call | apply AdjR.all); (focus (refine Lo.adjR ?_ (by assumption); (with_reducible repeat' constructor))); try (first | decide | (refine .inr ?_; decide) | (refine .inl ?_; simp [fA]; done) | (refine Lo.ne ?_ hne; (with_reducible repeat' constructor))))
theorem fSettle_Act {y : Run} (h : Tch y) : Tch (fSettle y) := by
  unfold fSettle; dsimp only
  split
  all_goals (with_reducible repeat' (first | assumption | constructor))
theorem fTake_Act {y : Run} {w : Int} (h : Tch y) : Tch (fTake y w) := by
  unfold fTake; dsimp only
  repeat' split
  · with_reducible repeat' (first | assumption | constructor)
  · exact fSettle_Act (by with_reducible repeat' (first | assumption | constructor))
  · with_reducible repeat' (first | assumption | constructor)
theorem fLook_Nx (hs : 0 < sl) (hne : x.t.fr ≠ []) (h : Adj sl th x) (e : x.f.fn = 20) (hp : 3 ≤ x.f.pc ∧ x.f.pc ≤ 7) : Nx sl th x (fLook x) := by
  have r := h.r hne
  rw [e] at r
  unfold fLook; dsimp only
  repeat' split
  all_goals first
    | exact ⟨fTake_Adj (l := rst x) (by (focus (refine Lo.adjR ?_ (by assumption); (with_reducible repeat' constructor)))), .inl (Tch.act (fTake_Act (by (with_reducible repeat' constructor))))⟩
    | exact ⟨fSettle_Adj (l := rst x) (by (focus (refine Lo.adjR ?_ (by assumption); (with_reducible repeat' constructor)))), .inl (Tch.act (fSettle_Act (by (with_reducible repeat' constructor))))⟩
    | (refine ⟨by ((with_reducible first | apply AdjR.pop | apply AdjR.allPc | apply AdjR.allS | apply AdjR.fin | apply AdjR.call | apply AdjR.all); (focus (refine Lo.adjR ?_ (by assumption); (with_reducible repeat' constructor))); try (first | decide | (refine .inr ?_; decide) | (refine .inl ?_; simp [fA]; done) | (refine Lo.ne ?_ hne; (with_reducible repeat' constructor)))), ?_⟩; first | (refine .inl ?_; (focus (refine Tch.act ?_; (with_reducible repeat' constructor))); done) | (refine .inr ?_; ((with_reducible first | apply AdjR.ltCall r hne | apply AdjR.ltFin r hne | apply AdjR.ltPc r hne | apply AdjR.ltPop r hne); assumption; (focus (refine Lo.adjR ?_ (by assumption); (with_reducible repeat' constructor))); try (first | assumption | exact ne_setF _ _)); simp +decide [fW, fA, hs]; first | done | omega))
    | omega
theorem fStep_Nx (hs : 0 < sl) (hne : x.t.fr ≠ []) (h : Adj sl th x) (e : x.f.fn = 20) (hp : 0 ≤ x.f.pc ∧ x.f.pc ≤ 8) : Nx sl th x (fStep x) := by
  have r := h.r hne
  rw [e] at r
  unfold fStep; dsimp only
  repeat' split
  all_goals first
    | exact fLook_Nx hs hne h e (by omega)
    | exact ⟨fTake_Adj (l := rst x) (by (focus (refine Lo.adjR ?_ (by assumption); (with_reducible repeat' constructor)))), .inl (Tch.act (fTake_Act (by (with_reducible repeat' constructor))))⟩
    | (refine ⟨by ((with_reducible first | apply AdjR.pop | apply AdjR.allPc | apply AdjR.allS | apply AdjR.fin | apply AdjR.call | apply AdjR.all); (focus (refine Lo.adjR ?_ (by assumption); (with_reducible repeat' constructor))); try (first | decide | (refine .inr ?_; decide) | (refine .inl ?_; simp [fA]; done) | (refine Lo.ne ?_ hne; (with_reducible repeat' constructor)))), ?_⟩; first | (refine .inl ?_; (focus (refine Tch.act ?_; (with_reducible repeat' constructor))); done) | (refine .inr ?_; ((with_reducible first | apply AdjR.ltCall r hne | apply AdjR.ltFin r hne | apply AdjR.ltPc r hne | apply AdjR.ltPop r hne); assumption; (focus (refine Lo.adjR ?_ (by assumption); (with_reducible repeat' constructor))); try (first | assumption | exact ne_setF _ _)); simp +decide [fW, fA, hs]; first | done | omega))
theorem findDo_Nx (hsl : sl = x.m.p.slots) (hth : th = x.m.p.c.threads) (hs : 0 < sl) (ha : 0 < sl * th) (hne : x.t.fr ≠ []) (h : Adj sl th x) (e : 1 ≤ x.f.fn ∧ x.f.fn ≤ 6 ∨ x.f.fn = 20 ∧ 0 ≤ x.f.pc ∧ x.f.pc ≤ 8) : Nx sl th x (findDo x) := by
  unfold findDo
  rw [if_neg hne]
  by_cases c : x.f.fn = 20
  · rw [if_pos c]; exact fStep_Nx hs hne h c (by omega)
  · rw [if_neg c]; exact hazardDo_Nx hsl hth hs ha hne h (by omega)
theorem siTake_Nx (hs : 0 < sl) (ha : 0 < sl * th) (hne : x.t.fr ≠ []) (h : Adj sl th x) (e : x.f.fn = 21) (hp : 0 ≤ x.f.pc ∧ x.f.pc ≤ 2) : Nx sl th x (siTake x) := by
  have r := h.r hne
  rw [e] at r
  unfold siTake; dsimp only
  repeat' split
  all_goals first | (refine ⟨by ((with_reducible first | apply AdjR.pop | apply AdjR.allPc | apply AdjR.allS | apply AdjR.fin | apply AdjR.call | apply AdjR.all); (focus (refine Lo.adjR ?_ (by assumption); (with_reducible repeat' constructor))); try (first | decide | (refine .inr ?_; decide) | (refine .inl ?_; simp [fA]; done) | (refine Lo.ne ?_ hne; (with_reducible repeat' constructor)))), ?_⟩; first | (refine .inl ?_; (focus (refine Tch.act ?_; (with_reducible repeat' constructor))); done) | (refine .inr ?_; ((with_reducible first | apply AdjR.ltCall r hne | apply AdjR.ltFin r hne | apply AdjR.ltPc r hne | apply AdjR.ltPop r hne); assumption; (focus (refine Lo.adjR ?_ (by assumption); (with_reducible repeat' constructor))); try (first | assumption | exact ne_setF _ _)); simp +decide [fW, fA, hs, ha]; first | done | omega)) | omega
theorem siLay_Nx (hs : 0 < sl) (hne : x.t.fr ≠ []) (h : Adj sl th x) (e : x.f.fn = 21) (hp : 3 ≤ x.f.pc ∧ x.f.pc ≤ 7) : Nx sl th x (siLay x) := by
  have r := h.r hne
  rw [e] at r
  unfold siLay; dsimp only
  repeat' split
  all_goals first | (refine ⟨by ((with_reducible first | apply AdjR.pop | apply AdjR.allPc | apply AdjR.allS | apply AdjR.fin | apply AdjR.call | apply AdjR.all); (focus (refine Lo.adjR ?_ (by assumption); (with_reducible repeat' constructor))); try (first | decide | (refine .inr ?_; decide) | (refine .inl ?_; simp [fA]; done) | (refine Lo.ne ?_ hne; (with_reducible repeat' constructor)))), ?_⟩; first | (refine .inl ?_; (focus (refine Tch.act ?_; (with_reducible repeat' constructor))); done) | (refine .inr ?_; ((with_reducible first | apply AdjR.ltCall r hne | apply AdjR.ltFin r hne | apply AdjR.ltPc r hne | apply AdjR.ltPop r hne); assumption; (focus (refine Lo.adjR ?_ (by assumption); (with_reducible repeat' constructor))); try (first | assumption | exact ne_setF _ _)); simp +decide [fW, fA, hs]; first | done | omega)) | omega
theorem siEnter_Nx (hs : 0 < sl) (hne : x.t.fr ≠ []) (h : Adj sl th x) (e : x.f.fn = 21) (hp : 8 ≤ x.f.pc ∧ x.f.pc ≤ 11) : Nx sl th x (siEnter x) := by
  have r := h.r hne
  rw [e] at r
  unfold siEnter; dsimp only
  repeat' split
  all_goals first | (refine ⟨by ((with_reducible first | apply AdjR.pop | apply AdjR.allPc | apply AdjR.allS | apply AdjR.fin | apply AdjR.call | apply AdjR.all); (focus (refine Lo.adjR ?_ (by assumption); (with_reducible repeat' constructor))); try (first | decide | (refine .inr ?_; decide) | (refine .inl ?_; simp [fA]; done) | (refine Lo.ne ?_ hne; (with_reducible repeat' constructor)))), ?_⟩; first | (refine .inl ?_; (focus (refine Tch.act ?_; (with_reducible repeat' constructor))); done) | (refine .inr ?_; ((with_reducible first | apply AdjR.ltCall r hne | apply AdjR.ltFin r hne | apply AdjR.ltPc r hne | apply AdjR.ltPop r hne); assumption; (focus (refine Lo.adjR ?_ (by assumption); (with_reducible repeat' constructor))); try (first | assumption | exact ne_setF _ _)); simp +decide [fW, fA, hs]; first | done | omega)) | omega
theorem siClimb_Nx (hs : 0 < sl) (hne : x.t.fr ≠ []) (h : Adj sl th x) (e : x.f.fn = 21) (hp : 12 ≤ x.f.pc ∧ x.f.pc ≤ 14) : Nx sl th x (siClimb x) := by
  have r := h.r hne
  rw [e] at r
  unfold siClimb; dsimp only
  repeat' split
  all_goals first | (refine ⟨by ((with_reducible first | apply AdjR.pop | apply AdjR.allPc | apply AdjR.allS | apply AdjR.fin | apply AdjR.call | apply AdjR.all); (focus (refine Lo.adjR ?_ (by assumption); (with_reducible repeat' constructor))); try (first | decide | (refine .inr ?_; decide) | (refine .inl ?_; simp [fA]; done) | (refine Lo.ne ?_ hne; (with_reducible repeat' constructor)))), ?_⟩; first | (refine .inl ?_; (focus (refine Tch.act ?_; (with_reducible repeat' constructor))); done) | (refine .inr ?_; ((with_reducible first | apply AdjR.ltCall r hne | apply AdjR.ltFin r hne | apply AdjR.ltPc r hne | apply AdjR.ltPop r hne); assumption; (focus (refine Lo.adjR ?_ (by assumption); (with_reducible repeat' constructor))); try (first | assumption | exact ne_setF _ _)); simp +decide [fW, fA, hs]; first | done | omega)) | omega
theorem siLeave_Nx (hs : 0 < sl) (hne : x.t.fr ≠ []) (h : Adj sl th x) (e : x.f.fn = 21) (hp : 15 ≤ x.f.pc ∧ x.f.pc ≤ 17) : Nx sl th x (siLeave x) := by
  have r := h.r hne
  rw [e] at r
  unfold siLeave; dsimp only
  repeat' split
  · (refine ⟨by ((with_reducible first | apply AdjR.pop | apply AdjR.allPc | apply AdjR.allS | apply AdjR.fin | apply AdjR.call | apply AdjR.all); (focus (refine Lo.adjR ?_ (by assumption); (with_reducible repeat' constructor))); try (first | decide | (refine .inr ?_; decide) | (refine .inl ?_; simp [fA]; done) | (refine Lo.ne ?_ hne; (with_reducible repeat' constructor)))), ?_⟩; first | (refine .inl ?_; (focus (refine Tch.act ?_; (with_reducible repeat' constructor))); done) | (refine .inr ?_; ((with_reducible first | apply AdjR.ltCall r hne | apply AdjR.ltFin r hne | apply AdjR.ltPc r hne | apply AdjR.ltPop r hne); assumption; (focus (refine Lo.adjR ?_ (by assumption); (with_reducible repeat' constructor))); try (first | assumption | exact ne_setF _ _)); simp +decide [fW, fA, hs]; first | done | omega))
  · (refine ⟨by ((with_reducible first | apply AdjR.pop | apply AdjR.allPc | apply AdjR.allS | apply AdjR.fin | apply AdjR.call | apply AdjR.all); (focus (refine Lo.adjR ?_ (by assumption); (with_reducible repeat' constructor))); try (first | decide | (refine .inr ?_; decide) | (refine .inl ?_; simp [fA]; done) | (refine Lo.ne ?_ hne; (with_reducible repeat' constructor)))), ?_⟩; first | (refine .inl ?_; (focus (refine Tch.act ?_; (with_reducible repeat' constructor))); done) | (refine .inr ?_; ((with_reducible first | apply AdjR.ltCall r hne | apply AdjR.ltFin r hne | apply AdjR.ltPc r hne | apply AdjR.ltPop r hne); assumption; (focus (refine Lo.adjR ?_ (by assumption); (with_reducible repeat' constructor))); try (first | assumption | exact ne_setF _ _)); simp +decide [fW, fA, hs]; first | done | omega))
  · (refine ⟨by ((with_reducible first | apply AdjR.pop | apply AdjR.allPc | apply AdjR.allS | apply AdjR.fin | apply AdjR.call | apply AdjR.all); (focus (refine Lo.adjR ?_ (by assumption); (with_reducible repeat' constructor))); try (first | decide | (refine .inr ?_; decide) | (refine .inl ?_; simp [fA]; done) | (refine Lo.ne ?_ hne; (with_reducible repeat' constructor)))), ?_⟩; first | (refine .inl ?_; (focus (refine Tch.act ?_; (with_reducible repeat' constructor))); done) | (refine .inr ?_; ((with_reducible first | apply AdjR.ltCall r hne | apply AdjR.ltFin r hne | apply AdjR.ltPc r hne | apply AdjR.ltPop r hne); assumption; (focus (refine Lo.adjR ?_ (by assumption); (with_reducible repeat' constructor))); try (first | assumption | exact ne_setF _ _)); simp +decide [fW, fA, hs]; first | done | omega))
  · have e9 : x.f.pc = 16 := by omega
    (refine ⟨by ((with_reducible first | apply AdjR.pop | apply AdjR.allPc | apply AdjR.allS | apply AdjR.fin | apply AdjR.call | apply AdjR.all); (focus (refine Lo.adjR ?_ (by assumption); (with_reducible repeat' constructor))); try (first | decide | (refine .inr ?_; decide) | (refine .inl ?_; simp [fA]; done) | (refine Lo.ne ?_ hne; (with_reducible repeat' constructor)))), ?_⟩; first | (refine .inl ?_; (focus (refine Tch.act ?_; (with_reducible repeat' constructor))); done) | (refine .inr ?_; ((with_reducible first | apply AdjR.ltCall r hne | apply AdjR.ltFin r hne | apply AdjR.ltPc r hne | apply AdjR.ltPop r hne); assumption; (focus (refine Lo.adjR ?_ (by assumption); (with_reducible repeat' constructor))); try (first | assumption | exact ne_setF _ _)); simp +decide [fW, fA, hs]; first | done | omega))
theorem siStep_Nx (hs : 0 < sl) (ha : 0 < sl * th) (hne : x.t.fr ≠ []) (h : Adj sl th x) (e : x.f.fn = 21) (hp : 0 ≤ x.f.pc ∧ x.f.pc ≤ 17) : Nx sl th x (siStep x) := by
  unfold siStep
  repeat' split
  · exact siTake_Nx hs ha hne h e (by omega)
  · exact siLay_Nx hs hne h e (by omega)
  · exact siEnter_Nx hs hne h e (by omega)
  · exact siClimb_Nx hs hne h e (by omega)
  · exact siLeave_Nx hs hne h e (by omega)
theorem srLook22_Nx (hs : 0 < sl) (hne : x.t.fr ≠ []) (h : Adj sl th x) (e : x.f.fn = 22) (hp : 0 ≤ x.f.pc ∧ x.f.pc ≤ 3) : Nx sl th x (srLook x) := by
  have r := h.r hne
  rw [e] at r
  unfold srLook srPair; dsimp only
  repeat' split
  all_goals first | (refine ⟨by ((with_reducible first | apply AdjR.pop | apply AdjR.allPc | apply AdjR.allS | apply AdjR.fin | apply AdjR.call | apply AdjR.all); (focus (refine Lo.adjR ?_ (by assumption); (with_reducible repeat' constructor))); try (first | decide | (refine .inr ?_; decide) | (refine .inl ?_; simp [fA]; done) | (refine Lo.ne ?_ hne; (with_reducible repeat' constructor)))), ?_⟩; first | (refine .inl ?_; (focus (refine Tch.act ?_; (with_reducible repeat' constructor))); done) | (refine .inr ?_; ((with_reducible first | apply AdjR.ltCall r hne | apply AdjR.ltFin r hne | apply AdjR.ltPc r hne | apply AdjR.ltPop r hne); assumption; (focus (refine Lo.adjR ?_ (by assumption); (with_reducible repeat' constructor))); try (first | assumption | exact ne_setF _ _)); simp +decide [fW, fA, hs]; first | done | omega)) | omega
theorem srLook23_Nx (hs : 0 < sl) (hne : x.t.fr ≠ []) (h : Adj sl th x) (e : x.f.fn = 23) (hp : 0 ≤ x.f.pc ∧ x.f.pc ≤ 3) : Nx sl th x (srLook x) := by
  have r := h.r hne
  rw [e] at r
  unfold srLook srPair; dsimp only
  repeat' split
  all_goals first | (refine ⟨by ((with_reducible first | apply AdjR.pop | apply AdjR.allPc | apply AdjR.allS | apply AdjR.fin | apply AdjR.call | apply AdjR.all); (focus (refine Lo.adjR ?_ (by assumption); (with_reducible repeat' constructor))); try (first | decide | (refine .inr ?_; decide) | (refine .inl ?_; simp [fA]; done) | (refine Lo.ne ?_ hne; (with_reducible repeat' constructor)))), ?_⟩; first | (refine .inl ?_; (focus (refine Tch.act ?_; (with_reducible repeat' constructor))); done) | (refine .inr ?_; ((with_reducible first | apply AdjR.ltCall r hne | apply AdjR.ltFin r hne | apply AdjR.ltPc r hne | apply AdjR.ltPop r hne); assumption; (focus (refine Lo.adjR ?_ (by assumption); (with_reducible repeat' constructor))); try (first | assumption | exact ne_setF _ _)); simp +decide [fW, fA, hs]; first | done | omega)) | omega
theorem srLook_Nx (hs : 0 < sl) (hne : x.t.fr ≠ []) (h : Adj sl th x) (e : x.f.fn = 22 ∨ x.f.fn = 23) (hp : 0 ≤ x.f.pc ∧ x.f.pc ≤ 3) : Nx sl th x (srLook x) := by
  rcases e with e | e
  · exact srLook22_Nx hs hne h e hp
  · exact srLook23_Nx hs hne h e hp
theorem srBury22_Nx (hs : 0 < sl) (hne : x.t.fr ≠ []) (h : Adj sl th x) (e : x.f.fn = 22) (hp : 4 ≤ x.f.pc ∧ x.f.pc ≤ 6) : Nx sl th x (srBury x) := by
  have r := h.r hne
  rw [e] at r
  unfold srBury; dsimp only
  repeat' split
  all_goals first | (refine ⟨by ((with_reducible first | apply AdjR.pop | apply AdjR.allPc | apply AdjR.allS | apply AdjR.fin | apply AdjR.call | apply AdjR.all); (focus (refine Lo.adjR ?_ (by assumption); (with_reducible repeat' constructor))); try (first | decide | (refine .inr ?_; decide) | (refine .inl ?_; simp [fA]; done) | (refine Lo.ne ?_ hne; (with_reducible repeat' constructor)))), ?_⟩; first | (refine .inl ?_; (focus (refine Tch.act ?_; (with_reducible repeat' constructor))); done) | (refine .inr ?_; ((with_reducible first | apply AdjR.ltCall r hne | apply AdjR.ltFin r hne | apply AdjR.ltPc r hne | apply AdjR.ltPop r hne); assumption; (focus (refine Lo.adjR ?_ (by assumption); (with_reducible repeat' constructor))); try (first | assumption | exact ne_setF _ _)); simp +decide [fW, fA, hs]; first | done | omega)) | omega
theorem srBury23_Nx (hs : 0 < sl) (hne : x.t.fr ≠ []) (h : Adj sl th x) (e : x.f.fn = 23) (hp : 4 ≤ x.f.pc ∧ x.f.pc ≤ 6) : Nx sl th x (srBury x) := by
  have r := h.r hne
  rw [e] at r
  unfold srBury; dsimp only
  repeat' split
  all_goals first | (refine ⟨by ((with_reducible first | apply AdjR.pop | apply AdjR.allPc | apply AdjR.allS | apply AdjR.fin | apply AdjR.call | apply AdjR.all); (focus (refine Lo.adjR ?_ (by assumption); (with_reducible repeat' constructor))); try (first | decide | (refine .inr ?_; decide) | (refine .inl ?_; simp [fA]; done) | (refine Lo.ne ?_ hne; (with_reducible repeat' constructor)))), ?_⟩; first | (refine .inl ?_; (focus (refine Tch.act ?_; (with_reducible repeat' constructor))); done) | (refine .inr ?_; ((with_reducible first | apply AdjR.ltCall r hne | apply AdjR.ltFin r hne | apply AdjR.ltPc r hne | apply AdjR.ltPop r hne); assumption; (focus (refine Lo.adjR ?_ (by assumption); (with_reducible repeat' constructor))); try (first | assumption | exact ne_setF _ _)); simp +decide [fW, fA, hs]; first | done | omega)) | omega
theorem srBury_Nx (hs : 0 < sl) (hne : x.t.fr ≠ []) (h : Adj sl th x) (e : x.f.fn = 22 ∨ x.f.fn = 23) (hp : 4 ≤ x.f.pc ∧ x.f.pc ≤ 6) : Nx sl th x (srBury x) := by
  rcases e with e | e
  · exact srBury22_Nx hs hne h e hp
  · exact srBury23_Nx hs hne h e hp
theorem srMark22_Nx (hs : 0 < sl) (hne : x.t.fr ≠ []) (h : Adj sl th x) (e : x.f.fn = 22) (hp : 7 ≤ x.f.pc ∧ x.f.pc ≤ 8) : Nx sl th x (srMark x) := by
  have r := h.r hne
  rw [e] at r
  unfold srMark; dsimp only
  repeat' split
  all_goals first | (refine ⟨by ((with_reducible first | apply AdjR.pop | apply AdjR.allPc | apply AdjR.allS | apply AdjR.fin | apply AdjR.call | apply AdjR.all); (focus (refine Lo.adjR ?_ (by assumption); (with_reducible repeat' constructor))); try (first | decide | (refine .inr ?_; decide) | (refine .inl ?_; simp [fA]; done) | (refine Lo.ne ?_ hne; (with_reducible repeat' constructor)))), ?_⟩; first | (refine .inl ?_; (focus (refine Tch.act ?_; (with_reducible repeat' constructor))); done) | (refine .inr ?_; ((with_reducible first | apply AdjR.ltCall r hne | apply AdjR.ltFin r hne | apply AdjR.ltPc r hne | apply AdjR.ltPop r hne); assumption; (focus (refine Lo.adjR ?_ (by assumption); (with_reducible repeat' constructor))); try (first | assumption | exact ne_setF _ _)); simp +decide [fW, fA, hs]; first | done | omega)) | omega
theorem srMark23_Nx (hs : 0 < sl) (hne : x.t.fr ≠ []) (h : Adj sl th x) (e : x.f.fn = 23) (hp : 7 ≤ x.f.pc ∧ x.f.pc ≤ 8) : Nx sl th x (srMark x) := by
  have r := h.r hne
  rw [e] at r
  unfold srMark; dsimp only
  repeat' split
  all_goals first | (refine ⟨by ((with_reducible first | apply AdjR.pop | apply AdjR.allPc | apply AdjR.allS | apply AdjR.fin | apply AdjR.call | apply AdjR.all); (focus (refine Lo.adjR ?_ (by assumption); (with_reducible repeat' constructor))); try (first | decide | (refine .inr ?_; decide) | (refine .inl ?_; simp [fA]; done) | (refine Lo.ne ?_ hne; (with_reducible repeat' constructor)))), ?_⟩; first | (refine .inl ?_; (focus (refine Tch.act ?_; (with_reducible repeat' constructor))); done) | (refine .inr ?_; ((with_reducible first | apply AdjR.ltCall r hne | apply AdjR.ltFin r hne | apply AdjR.ltPc r hne | apply AdjR.ltPop r hne); assumption; (focus (refine Lo.adjR ?_ (by assumption); (with_reducible repeat' constructor))); try (first | assumption | exact ne_setF _ _)); simp +decide [fW, fA, hs]; first | done | omega)) | omega
theorem srMark_Nx (hs : 0 < sl) (hne : x.t.fr ≠ []) (h : Adj sl th x) (e : x.f.fn = 22 ∨ x.f.fn = 23) (hp : 7 ≤ x.f.pc ∧ x.f.pc ≤ 8) : Nx sl th x (srMark x) := by
  rcases e with e | e
  · exact srMark22_Nx hs hne h e hp
  · exact srMark23_Nx hs hne h e hp
theorem srLeave22_Nx (hs : 0 < sl) (hne : x.t.fr ≠ []) (h : Adj sl th x) (e : x.f.fn = 22) (hp : 9 ≤ x.f.pc ∧ x.f.pc ≤ 13) : Nx sl th x (srLeave x) := by
  have r := h.r hne
  rw [e] at r
  unfold srLeave srPair; dsimp only
  repeat' split
  · (refine ⟨by ((with_reducible first | apply AdjR.pop | apply AdjR.allPc | apply AdjR.allS | apply AdjR.fin | apply AdjR.call | apply AdjR.all); (focus (refine Lo.adjR ?_ (by assumption); (with_reducible repeat' constructor))); try (first | decide | (refine .inr ?_; decide) | (refine .inl ?_; simp [fA]; done) | (refine Lo.ne ?_ hne; (with_reducible repeat' constructor)))), ?_⟩; first | (refine .inl ?_; (focus (refine Tch.act ?_; (with_reducible repeat' constructor))); done) | (refine .inr ?_; ((with_reducible first | apply AdjR.ltCall r hne | apply AdjR.ltFin r hne | apply AdjR.ltPc r hne | apply AdjR.ltPop r hne); assumption; (focus (refine Lo.adjR ?_ (by assumption); (with_reducible repeat' constructor))); try (first | assumption | exact ne_setF _ _)); simp +decide [fW, fA, hs]; first | done | omega))
  · (refine ⟨by ((with_reducible first | apply AdjR.pop | apply AdjR.allPc | apply AdjR.allS | apply AdjR.fin | apply AdjR.call | apply AdjR.all); (focus (refine Lo.adjR ?_ (by assumption); (with_reducible repeat' constructor))); try (first | decide | (refine .inr ?_; decide) | (refine .inl ?_; simp [fA]; done) | (refine Lo.ne ?_ hne; (with_reducible repeat' constructor)))), ?_⟩; first | (refine .inl ?_; (focus (refine Tch.act ?_; (with_reducible repeat' constructor))); done) | (refine .inr ?_; ((with_reducible first | apply AdjR.ltCall r hne | apply AdjR.ltFin r hne | apply AdjR.ltPc r hne | apply AdjR.ltPop r hne); assumption; (focus (refine Lo.adjR ?_ (by assumption); (with_reducible repeat' constructor))); try (first | assumption | exact ne_setF _ _)); simp +decide [fW, fA, hs]; first | done | omega))
  · (refine ⟨by ((with_reducible first | apply AdjR.pop | apply AdjR.allPc | apply AdjR.allS | apply AdjR.fin | apply AdjR.call | apply AdjR.all); (focus (refine Lo.adjR ?_ (by assumption); (with_reducible repeat' constructor))); try (first | decide | (refine .inr ?_; decide) | (refine .inl ?_; simp [fA]; done) | (refine Lo.ne ?_ hne; (with_reducible repeat' constructor)))), ?_⟩; first | (refine .inl ?_; (focus (refine Tch.act ?_; (with_reducible repeat' constructor))); done) | (refine .inr ?_; ((with_reducible first | apply AdjR.ltCall r hne | apply AdjR.ltFin r hne | apply AdjR.ltPc r hne | apply AdjR.ltPop r hne); assumption; (focus (refine Lo.adjR ?_ (by assumption); (with_reducible repeat' constructor))); try (first | assumption | exact ne_setF _ _)); simp +decide [fW, fA, hs]; first | done | omega))
  · (refine ⟨by ((with_reducible first | apply AdjR.pop | apply AdjR.allPc | apply AdjR.allS | apply AdjR.fin | apply AdjR.call | apply AdjR.all); (focus (refine Lo.adjR ?_ (by assumption); (with_reducible repeat' constructor))); try (first | decide | (refine .inr ?_; decide) | (refine .inl ?_; simp [fA]; done) | (refine Lo.ne ?_ hne; (with_reducible repeat' constructor)))), ?_⟩; first | (refine .inl ?_; (focus (refine Tch.act ?_; (with_reducible repeat' constructor))); done) | (refine .inr ?_; ((with_reducible first | apply AdjR.ltCall r hne | apply AdjR.ltFin r hne | apply AdjR.ltPc r hne | apply AdjR.ltPop r hne); assumption; (focus (refine Lo.adjR ?_ (by assumption); (with_reducible repeat' constructor))); try (first | assumption | exact ne_setF _ _)); simp +decide [fW, fA, hs]; first | done | omega))
  · (refine ⟨by ((with_reducible first | apply AdjR.pop | apply AdjR.allPc | apply AdjR.allS | apply AdjR.fin | apply AdjR.call | apply AdjR.all); (focus (refine Lo.adjR ?_ (by assumption); (with_reducible repeat' constructor))); try (first | decide | (refine .inr ?_; decide) | (refine .inl ?_; simp [fA]; done) | (refine Lo.ne ?_ hne; (with_reducible repeat' constructor)))), ?_⟩; first | (refine .inl ?_; (focus (refine Tch.act ?_; (with_reducible repeat' constructor))); done) | (refine .inr ?_; ((with_reducible first | apply AdjR.ltCall r hne | apply AdjR.ltFin r hne | apply AdjR.ltPc r hne | apply AdjR.ltPop r hne); assumption; (focus (refine Lo.adjR ?_ (by assumption); (with_reducible repeat' constructor))); try (first | assumption | exact ne_setF _ _)); simp +decide [fW, fA, hs]; first | done | omega))
  · have e9 : x.f.pc = 13 := by omega
    (refine ⟨by ((with_reducible first | apply AdjR.pop | apply AdjR.allPc | apply AdjR.allS | apply AdjR.fin | apply AdjR.call | apply AdjR.all); (focus (refine Lo.adjR ?_ (by assumption); (with_reducible repeat' constructor))); try (first | decide | (refine .inr ?_; decide) | (refine .inl ?_; simp [fA]; done) | (refine Lo.ne ?_ hne; (with_reducible repeat' constructor)))), ?_⟩; first | (refine .inl ?_; (focus (refine Tch.act ?_; (with_reducible repeat' constructor))); done) | (refine .inr ?_; ((with_reducible first | apply AdjR.ltCall r hne | apply AdjR.ltFin r hne | apply AdjR.ltPc r hne | apply AdjR.ltPop r hne); assumption; (focus (refine Lo.adjR ?_ (by assumption); (with_reducible repeat' constructor))); try (first | assumption | exact ne_setF _ _)); simp +decide [fW, fA, hs]; first | done | omega))
theorem srLeave23_Nx (hs : 0 < sl) (hne : x.t.fr ≠ []) (h : Adj sl th x) (e : x.f.fn = 23) (hp : 9 ≤ x.f.pc ∧ x.f.pc ≤ 13) : Nx sl th x (srLeave x) := by
  have r := h.r hne
  rw [e] at r
  unfold srLeave srPair; dsimp only
  repeat' split
  · (refine ⟨by ((with_reducible first | apply AdjR.pop | apply AdjR.allPc | apply AdjR.allS | apply AdjR.fin | apply AdjR.call | apply AdjR.all); (focus (refine Lo.adjR ?_ (by assumption); (with_reducible repeat' constructor))); try (first | decide | (refine .inr ?_; decide) | (refine .inl ?_; simp [fA]; done) | (refine Lo.ne ?_ hne; (with_reducible repeat' constructor)))), ?_⟩; first | (refine .inl ?_; (focus (refine Tch.act ?_; (with_reducible repeat' constructor))); done) | (refine .inr ?_; ((with_reducible first | apply AdjR.ltCall r hne | apply AdjR.ltFin r hne | apply AdjR.ltPc r hne | apply AdjR.ltPop r hne); assumption; (focus (refine Lo.adjR ?_ (by assumption); (with_reducible repeat' constructor))); try (first | assumption | exact ne_setF _ _)); simp +decide [fW, fA, hs]; first | done | omega))
  · (refine ⟨by ((with_reducible first | apply AdjR.pop | apply AdjR.allPc | apply AdjR.allS | apply AdjR.fin | apply AdjR.call | apply AdjR.all); (focus (refine Lo.adjR ?_ (by assumption); (with_reducible repeat' constructor))); try (first | decide | (refine .inr ?_; decide) | (refine .inl ?_; simp [fA]; done) | (refine Lo.ne ?_ hne; (with_reducible repeat' constructor)))), ?_⟩; first | (refine .inl ?_; (focus (refine Tch.act ?_; (with_reducible repeat' constructor))); done) | (refine .inr ?_; ((with_reducible first | apply AdjR.ltCall r hne | apply AdjR.ltFin r hne | apply AdjR.ltPc r hne | apply AdjR.ltPop r hne); assumption; (focus (refine Lo.adjR ?_ (by assumption); (with_reducible repeat' constructor))); try (first | assumption | exact ne_setF _ _)); simp +decide [fW, fA, hs]; first | done | omega))
  · (refine ⟨by ((with_reducible first | apply AdjR.pop | apply AdjR.allPc | apply AdjR.allS | apply AdjR.fin | apply AdjR.call | apply AdjR.all); (focus (refine Lo.adjR ?_ (by assumption); (with_reducible repeat' constructor))); try (first | decide | (refine .inr ?_; decide) | (refine .inl ?_; simp [fA]; done) | (refine Lo.ne ?_ hne; (with_reducible repeat' constructor)))), ?_⟩; first | (refine .inl ?_; (focus (refine Tch.act ?_; (with_reducible repeat' constructor))); done) | (refine .inr ?_; ((with_reducible first | apply AdjR.ltCall r hne | apply AdjR.ltFin r hne | apply AdjR.ltPc r hne | apply AdjR.ltPop r hne); assumption; (focus (refine Lo.adjR ?_ (by assumption); (with_reducible repeat' constructor))); try (first | assumption | exact ne_setF _ _)); simp +decide [fW, fA, hs]; first | done | omega))
  · (refine ⟨by ((with_reducible first | apply AdjR.pop | apply AdjR.allPc | apply AdjR.allS | apply AdjR.fin | apply AdjR.call | apply AdjR.all); (focus (refine Lo.adjR ?_ (by assumption); (with_reducible repeat' constructor))); try (first | decide | (refine .inr ?_; decide) | (refine .inl ?_; simp [fA]; done) | (refine Lo.ne ?_ hne; (with_reducible repeat' constructor)))), ?_⟩; first | (refine .inl ?_; (focus (refine Tch.act ?_; (with_reducible repeat' constructor))); done) | (refine .inr ?_; ((with_reducible first | apply AdjR.ltCall r hne | apply AdjR.ltFin r hne | apply AdjR.ltPc r hne | apply AdjR.ltPop r hne); assumption; (focus (refine Lo.adjR ?_ (by assumption); (with_reducible repeat' constructor))); try (first | assumption | exact ne_setF _ _)); simp +decide [fW, fA, hs]; first | done | omega))
  · (refine ⟨by ((with_reducible first | apply AdjR.pop | apply AdjR.allPc | apply AdjR.allS | apply AdjR.fin | apply AdjR.call | apply AdjR.all); (focus (refine Lo.adjR ?_ (by assumption); (with_reducible repeat' constructor))); try (first | decide | (refine .inr ?_; decide) | (refine .inl ?_; simp [fA]; done) | (refine Lo.ne ?_ hne; (with_reducible repeat' constructor)))), ?_⟩; first | (refine .inl ?_; (focus (refine Tch.act ?_; (with_reducible repeat' constructor))); done) | (refine .inr ?_; ((with_reducible first | apply AdjR.ltCall r hne | apply AdjR.ltFin r hne | apply AdjR.ltPc r hne | apply AdjR.ltPop r hne); assumption; (focus (refine Lo.adjR ?_ (by assumption); (with_reducible repeat' constructor))); try (first | assumption | exact ne_setF _ _)); simp +decide [fW, fA, hs]; first | done | omega))
  · have e9 : x.f.pc = 13 := by omega
    (refine ⟨by ((with_reducible first | apply AdjR.pop | apply AdjR.allPc | apply AdjR.allS | apply AdjR.fin | apply AdjR.call | apply AdjR.all); (focus (refine Lo.adjR ?_ (by assumption); (with_reducible repeat' constructor))); try (first | decide | (refine .inr ?_; decide) | (refine .inl ?_; simp [fA]; done) | (refine Lo.ne ?_ hne; (with_reducible repeat' constructor)))), ?_⟩; first | (refine .inl ?_; (focus (refine Tch.act ?_; (with_reducible repeat' constructor))); done) | (refine .inr ?_; ((with_reducible first | apply AdjR.ltCall r hne | apply AdjR.ltFin r hne | apply AdjR.ltPc r hne | apply AdjR.ltPop r hne); assumption; (focus (refine Lo.adjR ?_ (by assumption); (with_reducible repeat' constructor))); try (first | assumption | exact ne_setF _ _)); simp +decide [fW, fA, hs]; first | done | omega))
theorem srLeave_Nx (hs : 0 < sl) (hne : x.t.fr ≠ []) (h : Adj sl th x) (e : x.f.fn = 22 ∨ x.f.fn = 23) (hp : 9 ≤ x.f.pc ∧ x.f.pc ≤ 13) : Nx sl th x (srLeave x) := by
  rcases e with e | e
  · exact srLeave22_Nx hs hne h e hp
  · exact srLeave23_Nx hs hne h e hp
theorem srStep_Nx (hs : 0 < sl) (hne : x.t.fr ≠ []) (h : Adj sl th x) (e : x.f.fn = 22 ∨ x.f.fn = 23) (hp : 0 ≤ x.f.pc ∧ x.f.pc ≤ 13) : Nx sl th x (srStep x) := by
  unfold srStep
  repeat' split
  · exact srLook_Nx hs hne h e (by omega)
  · exact srBury_Nx hs hne h e (by omega)
  · exact srMark_Nx hs hne h e (by omega)
  · exact srLeave_Nx hs hne h e (by omega)
theorem su_rng {f : Frm} (o : SuOk L sl th f) (hs : 0 < sl) : (1 ≤ f.fn ∧ f.fn ≤ 6 ∨ f.fn = 20 ∧ 0 ≤ f.pc ∧ f.pc ≤ 8) ∨ f.fn = 21 ∧ (0 ≤ f.pc ∧ f.pc ≤ 17 ∨ f.pc = 90) ∨ (f.fn = 22 ∨ f.fn = 23) ∧ (0 ≤ f.pc ∧ f.pc ≤ 13 ∨ f.pc = 90) := by
  unfold SuOk HzOk at o
  omega
theorem sundellDo_Nx (hsl : sl = x.m.p.slots) (hth : th = x.m.p.c.threads) (hs : 0 < sl) (ha : 0 < sl * th) (hne : x.t.fr ≠ []) (h : Adj sl th x) (o : SuOk L sl th x.f) : Nx sl th x (sundellDo x) := by
  have o1 := su_rng o hs
  have r := h.r hne
  unfold sundellDo
  rw [if_neg hne]
  dsimp only
  split
  · exact findDo_Nx hsl hth hs ha hne h (by omega)
  split
  · rename_i c c9
    refine ⟨r.pop, .inr (AdjR.ltPop r hne c9 r hne ?_)⟩
    have c2 : fA sl th x.f.fn 90 = false := by
      have : x.f.fn = 21 ∨ x.f.fn = 22 ∨ x.f.fn = 23 := by omega
      rcases this with e | e | e <;> rw [e] <;> simp [fA]
    rw [c2]
    have := (fW_rng x.f.fn 90).1
    simp
    omega
  split
  · exact siStep_Nx hs ha hne h (by assumption) (by omega)
  · exact srStep_Nx hs hne h (by omega) (by omega)
end
end
section
open Mod
theorem s64_dec {n L : Int} (h : 0 ≤ s64 n ∧ s64 n < L) (hn : (s64 n).toNat ≠ 0) (hL : L ≤ 6) : 0 ≤ s64 (Mod.u64 (n - 1)) ∧ s64 (Mod.u64 (n - 1)) < L := by
  unfold s64 Mod.u64 at *
  repeat' split
  all_goals (split at h <;> split at hn <;> omega)
theorem s64_lev {L : Int} (hL : 1 ≤ L ∧ L ≤ 6) : 0 ≤ s64 (Mod.u64 (L - 1)) ∧ s64 (Mod.u64 (L - 1)) < L := by
  unfold s64 Mod.u64
  split <;> omega
section
variable {x : Run} {L sl th : Int}
theorem su20_of {f : Frm} (len : f.r.length = 10) (e : f.fn = 20) (hp : 0 ≤ f.pc ∧ f.pc ≤ 8) (hg : 0 ≤ s64 (f.g 1) ∧ s64 (f.g 1) < L) : SuOk L sl th f := .inr ⟨len, .inr (.inr ⟨e, hp.1, hp.2, fun _ => hg⟩)⟩
structure Fin20 (L : Int) (f : Frm) : Prop where
  len : f.r.length = 10
  fn : f.fn = 20
  g : 0 ≤ s64 (f.g 1) ∧ s64 (f.g 1) < L
theorem fSettle_All {y : Run} (hL : L ≤ 6) (r : Rest (SuOk L sl th) y) (o : Fin20 L y.f) : AllF (SuOk L sl th) (fSettle y) := by
  obtain ⟨len, e, g⟩ := o
  unfold fSettle; dsimp only
  split
  · ((repeat (with_reducible first | apply AllF.load | apply AllF.store | apply AllF.cas | apply AllF.add | apply AllF.swing | apply AllF.swingA | apply AllF.swingM | apply AllF.drop1 | apply AllF.guard | apply AllF.gh | apply AllF.fo | apply AllF.re | apply AllF.setPl)); first | with_reducible assumption | ((with_reducible first | apply Rest.pop | apply Rest.call | apply Rest.allPc | apply Rest.allS | apply Rest.fin); (focus (refine Lo.rest ?_ (by assumption); (with_reducible repeat' constructor)))))
  · rename_i c
    ((repeat (with_reducible first | apply AllF.load | apply AllF.store | apply AllF.cas | apply AllF.add | apply AllF.swing | apply AllF.swingA | apply AllF.swingM | apply AllF.drop1 | apply AllF.guard | apply AllF.gh | apply AllF.fo | apply AllF.re | apply AllF.setPl)); first | with_reducible assumption | ((with_reducible first | apply Rest.pop | apply Rest.call | apply Rest.allPc | apply Rest.allS | apply Rest.fin); (focus (refine Lo.rest ?_ (by assumption); (with_reducible repeat' constructor)))))
    rw [f_s]
    refine su20_of (by simp only [at_len, s_len]; assumption) (by simp only [fn_at, fn_s]; assumption) ⟨by show (0 : Int) ≤ 1; omega, by show (1 : Int) ≤ 8; omega⟩ ?_
    have e1 : (((y.setPl (y.t.pred.set (s64 (y.f.g 1)).toNat (y.f.g 2)) (y.t.succ.set (s64 (y.f.g 1)).toNat (wptr (y.f.g 3))) (y.t.word.set (s64 (y.f.g 1)).toNat (y.f.g 3))).f.s 1 (Mod.u64 (y.f.g 1 - 1))).at 1).g 1 = Mod.u64 (y.f.g 1 - 1) := by
      rw [g_at]
      exact g_s (show (y.f).r.length = 10 from len) (by decide) _
    rw [e1]
    exact s64_dec g c hL
theorem fTake_All {y : Run} {w : Int} (hL : L ≤ 6) (r : Rest (SuOk L sl th) y) (o : Fin20 L y.f) : AllF (SuOk L sl th) (fTake y w) := by
  obtain ⟨len, e, g⟩ := o
  have g2 : ((y.f.s 3 w)).g 1 = y.f.g 1 := g_s_ne _ (by decide) _
  unfold fTake; dsimp only
  repeat' split
  · ((repeat (with_reducible first | apply AllF.load | apply AllF.store | apply AllF.cas | apply AllF.add | apply AllF.swing | apply AllF.swingA | apply AllF.swingM | apply AllF.drop1 | apply AllF.guard | apply AllF.gh | apply AllF.fo | apply AllF.re | apply AllF.setPl)); first | with_reducible assumption | ((with_reducible first | apply Rest.pop | apply Rest.call | apply Rest.allPc | apply Rest.allS | apply Rest.fin); (focus (refine Lo.rest ?_ (by assumption); (with_reducible repeat' constructor)))))
    rw [f_s]
    exact su20_of (by simp only [at_len, s_len]; assumption) (by simp only [fn_at, fn_s]; assumption) ⟨by show (0 : Int) ≤ 8; omega, by show (8 : Int) ≤ 8; omega⟩ (by rw [g_at, g2]; exact g)
  · exact fSettle_All hL (by (focus (refine Lo.rest ?_ (by assumption); (with_reducible repeat' constructor)))) ⟨by rw [f_s, s_len]; exact len, by rw [f_s]; exact e, by rw [f_s, g2]; exact g⟩
  · ((repeat (with_reducible first | apply AllF.load | apply AllF.store | apply AllF.cas | apply AllF.add | apply AllF.swing | apply AllF.swingA | apply AllF.swingM | apply AllF.drop1 | apply AllF.guard | apply AllF.gh | apply AllF.fo | apply AllF.re | apply AllF.setPl)); first | with_reducible assumption | ((with_reducible first | apply Rest.pop | apply Rest.call | apply Rest.allPc | apply Rest.allS | apply Rest.fin); (focus (refine Lo.rest ?_ (by assumption); (with_reducible repeat' constructor)))))
    rw [f_s]
    exact su20_of (by simp only [at_len, s_len]; assumption) (by simp only [fn_at, fn_s]; assumption) ⟨by show (0 : Int) ≤ 3; omega, by show (3 : Int) ≤ 8; omega⟩ (by rw [g_at, g2]; exact g)
theorem fLook_All (hL : L ≤ 6) (h : AllF (SuOk L sl th) x) (o : SuOk L sl th x.f) (e : x.f.fn = 20) (hp : x.f.pc ≠ 0) : AllF (SuOk L sl th) (fLook x) := by
  have r := h.rest
  obtain ⟨len, o1, o2, o3⟩ := su_20 o e
  have g := o3 hp
  unfold fLook; dsimp only
  repeat' split
  all_goals first
    | exact fTake_All hL (by (focus (refine Lo.rest ?_ (by assumption); (with_reducible repeat' constructor)))) ⟨len, e, g⟩
    | exact fSettle_All hL (by (focus (refine Lo.rest ?_ (by assumption); (with_reducible repeat' constructor)))) ⟨len, e, g⟩
    | skip
  all_goals ((repeat (with_reducible first | apply AllF.load | apply AllF.store | apply AllF.cas | apply AllF.add | apply AllF.swing | apply AllF.swingA | apply AllF.swingM | apply AllF.drop1 | apply AllF.guard | apply AllF.gh | apply AllF.fo | apply AllF.re | apply AllF.setPl)); first | with_reducible assumption | ((with_reducible first | apply Rest.pop | apply Rest.call | apply Rest.allPc | apply Rest.allS | apply Rest.fin); (focus (refine Lo.rest ?_ (by assumption); (with_reducible repeat' constructor)))))
  all_goals ((try simp only [f_pc, f_s, f_load, f_store, f_cas, f_add, f_gh]); refine su20_of (by simp only [at_len, s_len]; assumption) (by simp only [fn_at, fn_s]; assumption) (by simp only [pc_at, pc_s]; omega) ?_; first | assumption | (simp +decide (disch := decide) only [g_at, g_s_ne]; assumption))
theorem fStep_All (hL : 1 ≤ L ∧ L ≤ 6) (hl : L = x.m.p.c.level) (h : AllF (SuOk L sl th) x) (o : SuOk L sl th x.f) (e : x.f.fn = 20) : AllF (SuOk L sl th) (fStep x) := by
  have r := h.rest
  obtain ⟨len, o1, o2, o3⟩ := su_20 o e
  unfold fStep; dsimp only
  split
  · ((repeat (with_reducible first | apply AllF.load | apply AllF.store | apply AllF.cas | apply AllF.add | apply AllF.swing | apply AllF.swingA | apply AllF.swingM | apply AllF.drop1 | apply AllF.guard | apply AllF.gh | apply AllF.fo | apply AllF.re | apply AllF.setPl)); first | with_reducible assumption | ((with_reducible first | apply Rest.pop | apply Rest.call | apply Rest.allPc | apply Rest.allS | apply Rest.fin); (focus (refine Lo.rest ?_ (by assumption); (with_reducible repeat' constructor)))))
    rw [f_s, f_s]
    refine su20_of (by simp only [at_len, s_len]; assumption) (by simp only [fn_at, fn_s]; assumption) ⟨by show (0 : Int) ≤ 1; omega, by show (1 : Int) ≤ 8; omega⟩ ?_
    rw [g_at, g_s (by rw [s_len]; exact len) (by decide), ← hl]
    exact s64_lev hL
  rename_i c
  have g := o3 c
  repeat' split
  all_goals first
    | exact fLook_All hL.2 h o e c
    | exact fTake_All hL.2 (by (focus (refine Lo.rest ?_ (by assumption); (with_reducible repeat' constructor)))) ⟨len, e, g⟩
    | skip
  all_goals ((repeat (with_reducible first | apply AllF.load | apply AllF.store | apply AllF.cas | apply AllF.add | apply AllF.swing | apply AllF.swingA | apply AllF.swingM | apply AllF.drop1 | apply AllF.guard | apply AllF.gh | apply AllF.fo | apply AllF.re | apply AllF.setPl)); first | with_reducible assumption | ((with_reducible first | apply Rest.pop | apply Rest.call | apply Rest.allPc | apply Rest.allS | apply Rest.fin); (focus (refine Lo.rest ?_ (by assumption); (with_reducible repeat' constructor)))))
  · ((try simp only [f_pc, f_s, f_load, f_store, f_cas, f_add, f_gh]); refine su20_of (by simp only [at_len, s_len]; assumption) (by simp only [fn_at, fn_s]; assumption) (by simp only [pc_at, pc_s]; omega) ?_; first | assumption | (simp +decide (disch := decide) only [g_at, g_s_ne]; assumption))
  · refine .inr ⟨by rw [at_len]; exact len, .inr (.inr ⟨e, by show (0 : Int) ≤ 0; omega, by show (0 : Int) ≤ 8; omega, fun hh => absurd rfl hh⟩)⟩
theorem findDo_All (hL : 1 ≤ L ∧ L ≤ 6) (hl : L = x.m.p.c.level) (hs : sl = x.m.p.slots) (ht : th = x.m.p.c.threads) (s0 : 0 ≤ sl) (t0 : 0 ≤ sl * th) (h : AllF (SuOk L sl th) x) (o : SuOk L sl th x.f) (e : ¬ (21 ≤ x.f.fn ∧ x.f.fn ≤ 23)) : AllF (SuOk L sl th) (findDo x) := by
  unfold findDo
  split
  · exact h
  split
  · exact fStep_All hL hl h o (by assumption)
  · exact hazardDo_All (fun f hf => .inl hf) h hs ht s0 t0 (su_hz o (by omega))
theorem lvlu_rng (m : Mac) (hl : 1 ≤ L ∧ L ≤ 6) : 1 ≤ Mod.u64 (m.lvl L).1 ∧ Mod.u64 (m.lvl L).1 ≤ L := by
  have := lvl_rng m hl.1
  unfold Mod.u64
  omega
theorem siTake_All (h : AllF (SuOk L sl th) x) (hL : L = x.m.p.c.level) (hl : 1 ≤ L ∧ L ≤ 6) (s0 : 0 ≤ sl) (t0 : 0 ≤ sl * th) (o : SuOk L sl th x.f) (e : x.f.fn = 21) (hp : 0 ≤ x.f.pc ∧ x.f.pc ≤ 2) : AllF (SuOk L sl th) (siTake x) := by
  have r := h.rest
  obtain ⟨len, o1, o2, o3, o4⟩ := su_21 o e
  unfold siTake; dsimp only
  repeat' split
  · ((repeat (with_reducible first | apply AllF.load | apply AllF.store | apply AllF.cas | apply AllF.add | apply AllF.swing | apply AllF.swingA | apply AllF.swingM | apply AllF.drop1 | apply AllF.guard | apply AllF.gh | apply AllF.fo | apply AllF.re | apply AllF.setPl)); first | with_reducible assumption | ((with_reducible first | apply Rest.pop | apply Rest.call | apply Rest.allPc | apply Rest.allS | apply Rest.fin); (focus (refine Lo.rest ?_ (by assumption); (with_reducible repeat' constructor)))))
    · ((try simp only [f_pc, f_s, f_load, f_store, f_cas, f_add, f_gh, f_drop1, f_swingA]); refine .inr ⟨(by simp only [at_len, s_len]; omega), .inl ⟨?_, ?_, ?_, ?_, ?_⟩⟩ <;> intros <;> (try simp +decide (disch := first | decide | assumption | (simp only [at_len, s_len]; assumption)) only [fn_at, fn_s, pc_at, pc_s, g_at, g_s_ne, g_s, at_len, s_len] at *) <;> omega)
    · exact su_new (by omega) s0 t0
  · ((repeat (with_reducible first | apply AllF.load | apply AllF.store | apply AllF.cas | apply AllF.add | apply AllF.swing | apply AllF.swingA | apply AllF.swingM | apply AllF.drop1 | apply AllF.guard | apply AllF.gh | apply AllF.fo | apply AllF.re | apply AllF.setPl)); first | with_reducible assumption | ((with_reducible first | apply Rest.pop | apply Rest.call | apply Rest.allPc | apply Rest.allS | apply Rest.fin); (focus (refine Lo.rest ?_ (by assumption); (with_reducible repeat' constructor)))))
    ((try simp only [f_pc, f_s, f_load, f_store, f_cas, f_add, f_gh, f_drop1, f_swingA]); refine .inr ⟨(by simp only [at_len, s_len]; omega), .inl ⟨?_, ?_, ?_, ?_, ?_⟩⟩ <;> intros <;> (try simp +decide (disch := first | decide | assumption | (simp only [at_len, s_len]; assumption)) only [fn_at, fn_s, pc_at, pc_s, g_at, g_s_ne, g_s, at_len, s_len] at *) <;> omega)
  · ((repeat (with_reducible first | apply AllF.load | apply AllF.store | apply AllF.cas | apply AllF.add | apply AllF.swing | apply AllF.swingA | apply AllF.swingM | apply AllF.drop1 | apply AllF.guard | apply AllF.gh | apply AllF.fo | apply AllF.re | apply AllF.setPl)); first | with_reducible assumption | ((with_reducible first | apply Rest.pop | apply Rest.call | apply Rest.allPc | apply Rest.allS | apply Rest.fin); (focus (refine Lo.rest ?_ (by assumption); (with_reducible repeat' constructor)))))
    · ((try simp only [f_pc, f_s, f_load, f_store, f_cas, f_add, f_gh, f_drop1, f_swingA]); refine .inr ⟨(by simp only [at_len, s_len]; omega), .inl ⟨?_, ?_, ?_, ?_, ?_⟩⟩ <;> intros <;> (try simp +decide (disch := first | decide | assumption | (simp only [at_len, s_len]; assumption)) only [fn_at, fn_s, pc_at, pc_s, g_at, g_s_ne, g_s, at_len, s_len] at *) <;> omega)
    · exact su_new (by omega) s0 t0
  · ((repeat (with_reducible first | apply AllF.load | apply AllF.store | apply AllF.cas | apply AllF.add | apply AllF.swing | apply AllF.swingA | apply AllF.swingM | apply AllF.drop1 | apply AllF.guard | apply AllF.gh | apply AllF.fo | apply AllF.re | apply AllF.setPl)); first | with_reducible assumption | ((with_reducible first | apply Rest.pop | apply Rest.call | apply Rest.allPc | apply Rest.allS | apply Rest.fin); (focus (refine Lo.rest ?_ (by assumption); (with_reducible repeat' constructor)))))
    · ((try simp only [f_pc, f_s, f_load, f_store, f_cas, f_add, f_gh, f_drop1, f_swingA]); refine .inr ⟨(by simp only [at_len, s_len]; omega), .inl ⟨?_, ?_, ?_, ?_, ?_⟩⟩ <;> intros <;> (try simp +decide (disch := first | decide | assumption | (simp only [at_len, s_len]; assumption)) only [fn_at, fn_s, pc_at, pc_s, g_at, g_s_ne, g_s, at_len, s_len] at *) <;> omega)
    · exact su_new (by omega) s0 t0
  · refine Rest.allPc (Rest.s (Rest.m (by (focus (refine Lo.rest ?_ (by assumption); (with_reducible repeat' constructor)))))) ?_
    rw [f_s]
    have ef : ∀ m : Mac, (⟨m, ((x.add 3 1).2.s 4 (ordMake (u32 (x.f.g 0)) (u32 (x.add 3 1).1))).t, ((x.add 3 1).2.s 4 (ordMake (u32 (x.f.g 0)) (u32 (x.add 3 1).1))).id⟩ : Run).f = x.f.s 4 (ordMake (u32 (x.f.g 0)) (u32 (x.add 3 1).1)) := fun m => by
      show ((x.add 3 1).2.s 4 (ordMake (u32 (x.f.g 0)) (u32 (x.add 3 1).1))).f = _
      rw [f_s]
      rfl
    rw [ef]
    have hv := lvlu_rng ((x.add 3 1).2.s 4 (ordMake (u32 (x.f.g 0)) (u32 (x.add 3 1).1))).m hl
    have ep : ((x.add 3 1).2.s 4 (ordMake (u32 (x.f.g 0)) (u32 (x.add 3 1).1))).m.p.c.level = L := by rw [hL]; exact congrArg (fun p : Pl => p.c.level) (St.fix (St.s (St.add (St.refl x)) : St 2 x ((x.add 3 1).2.s 4 (ordMake (u32 (x.f.g 0)) (u32 (x.add 3 1).1))))).p
    rw [ep]
    generalize Mod.u64 (((x.add 3 1).2.s 4 (ordMake (u32 (x.f.g 0)) (u32 (x.add 3 1).1))).m.lvl L).1 = v at *
    refine .inr ⟨by simp only [at_len, s_len]; exact len, .inl ⟨e, .inl ⟨by show (0 : Int) ≤ 3; omega, by show (3 : Int) ≤ 17; omega⟩, fun _ _ => ?_, fun hh => ?_, fun hh => ?_⟩⟩
    · rw [g_at, g_s (by rw [s_len]; exact len) (by decide)]
      exact hv
    · simp only [pc_at] at hh; omega
    · simp only [pc_at] at hh; omega
  · exact h
theorem siStep_All (h : AllF (SuOk L sl th) x) (hL : L = x.m.p.c.level) (hl : 1 ≤ L ∧ L ≤ 6) (s0 : 0 ≤ sl) (t0 : 0 ≤ sl * th) (o : SuOk L sl th x.f) (e : x.f.fn = 21) (h9 : x.f.pc ≠ 90) : AllF (SuOk L sl th) (siStep x) := by
  obtain ⟨len, o1, o2, o3, o4⟩ := su_21 o e
  unfold siStep
  repeat' split
  · exact siTake_All h hL hl s0 t0 o e (by omega)
  · exact siLay_All h hL hl s0 t0 o e (by omega)
  · exact siEnter_All h hL hl s0 t0 o e (by omega)
  · exact siClimb_All h hL hl s0 t0 o e (by omega)
  · exact siLeave_All h hL hl s0 t0 o e
theorem srStep_All (h : AllF (SuOk L sl th) x) (s0 : 0 ≤ sl) (t0 : 0 ≤ sl * th) (o : SuOk L sl th x.f) (e : x.f.fn = 22 ∨ x.f.fn = 23) : AllF (SuOk L sl th) (srStep x) := by
  unfold srStep
  repeat' split
  · exact srLook_All h s0 t0 o e
  · exact srBury_All h s0 t0 o e
  · exact srMark_All h s0 t0 o e
  · exact srLeave_All h s0 t0 o e
theorem sundellDo_All (h : AllF (SuOk L sl th) x) (hL : L = x.m.p.c.level) (hl : 1 ≤ L ∧ L ≤ 6) (hs : sl = x.m.p.slots) (ht : th = x.m.p.c.threads) (s0 : 0 ≤ sl) (t0 : 0 ≤ sl * th) (hne : x.t.fr ≠ []) : AllF (SuOk L sl th) (sundellDo x) := by
  have r := h.rest
  have o := h.top hne
  unfold sundellDo
  rw [if_neg hne]
  dsimp only
  split
  · exact findDo_All hl hL hs ht s0 t0 h o (by omega)
  split
  · ((repeat (with_reducible first | apply AllF.load | apply AllF.store | apply AllF.cas | apply AllF.add | apply AllF.swing | apply AllF.swingA | apply AllF.swingM | apply AllF.drop1 | apply AllF.guard | apply AllF.gh | apply AllF.fo | apply AllF.re | apply AllF.setPl)); first | with_reducible assumption | ((with_reducible first | apply Rest.pop | apply Rest.call | apply Rest.allPc | apply Rest.allS | apply Rest.fin); (focus (refine Lo.rest ?_ (by assumption); (with_reducible repeat' constructor)))))
  split
  · exact siStep_All h hL hl s0 t0 o (by assumption) (by assumption)
  · exact srStep_All h s0 t0 o (by omega)
end
end
section
open Mod
theorem ac_pos {c : Mod.Cf} (h : okC c = true) : 0 < (planOf c).slots ∧ 0 < (planOf c).slots * c.threads ∧ (planOf c).slots * c.threads ≤ 84 ∧ (planOf c).slots ≤ 14 ∧ 1 ≤ c.level ∧ c.level ≤ 6 := by
  have B := planOf_B h
  have h1 : 2 ≤ (planOf c).slots ∧ (planOf c).slots ≤ 14 := B.sl
  have h2 : 1 ≤ c.threads ∧ c.threads ≤ 6 := B.th
  have h3 : 1 ≤ c.level ∧ c.level ≤ 6 := B.lv
  refine ⟨by omega, Int.mul_pos (by omega) (by omega), ?_, h1.2, h3.1, h3.2⟩
  exact Int.le_trans (Int.mul_le_mul h1.2 h2.2 (by omega) (by omega)) (by decide)
theorem RunOk.ok {Q : Mod.Cf → Frm → Prop} {c : Mod.Cf} {x : Run} {B : Nat} (h : RunOk Q c x B) (hB : B < 200000000) (hid : 0 ≤ x.id ∧ x.id ≤ 6) (hp : 0 ≤ x.f.pc ∧ x.f.pc ≤ 100) : Ok x := by
  have hP : x.m.mm.st.toNat + x.m.used.toNat + x.t.retired.length + x.t.found.length + x.t.fr.length ≤ B := h.P
  exact ⟨by omega, by omega, by omega, by omega, by omega, ⟨by omega, by omega⟩, hp⟩
theorem hz_pc {sl th : Int} {f : Frm} (h : HzOk sl th f) (h1 : 0 ≤ sl ∧ sl ≤ 14) (h2 : sl * th ≤ 84) : 0 ≤ f.pc ∧ f.pc ≤ 100 := by
  unfold HzOk at h
  omega
def SuQ (c : Mod.Cf) (f : Frm) : Prop := SuOk c.level (planOf c).slots c.threads f
def SuW (x : Run) : Prop := Ok x ∧ FOk x ∧ (x.f.fn = 21 → SiOk x)
theorem sundell_good : DoOk sundellDo SuQ SuW 21 where
  st := sundellDo_St
  all c x hc hp hne h := by
    obtain ⟨a1, a2, a3, a4, a5, a6⟩ := ac_pos hc
    exact sundellDo_All h (by rw [hp]; rfl) ⟨a5, a6⟩ (by rw [hp]) (by rw [hp]; rfl) (by omega) (by omega) hne
  nx c x hc hp hne h a := by
    obtain ⟨a1, a2, a3, a4, a5, a6⟩ := ac_pos hc
    exact sundellDo_Nx (by rw [hp]) (by rw [hp]; rfl) a1 a2 hne a (h.top hne)
  w c x B hc h hB hne hid := by
    obtain ⟨a1, a2, a3, a4, a5, a6⟩ := ac_pos hc
    have o : SuOk c.level (planOf c).slots c.threads x.f := h.q.top hne
    have hpr := h.pr
    have hsu := h.su
    have hwo := h.wo
    refine ⟨h.ok hB hid ?_, fun e hp => ?_, fun e => ?_⟩
    · rcases o with o | ⟨_, o⟩
      · exact hz_pc o ⟨by omega, a4⟩ a3
      · omega
    · obtain ⟨len, o1, o2, o3⟩ := su_20 o e
      have g := o3 hp
      exact ⟨⟨g.1, by omega⟩, by omega, by omega, by omega⟩
    · obtain ⟨len, o1, o2, o3, o4⟩ := su_21 o e
      refine ⟨⟨by omega, by omega, by omega, by omega⟩, fun e2 => ?_, fun e2 => ?_, fun e2 e3 => ?_⟩
      · have g1 := o2 (by omega) (by omega)
        have g2 := o3 (by omega)
        omega
      · have g1 := o2 (by omega) (by omega)
        omega
      · have g1 := o2 (by omega) (by omega)
        have g2 := o3 (by omega)
        omega
  new c op l hc ho := by
    obtain ⟨a1, a2, a3, a4, a5, a6⟩ := ac_pos hc
    exact su_new (by omega) (by omega) (by omega)
theorem sundell_DoC : DoC 22 sundellDo SuW := fun h M T tv x R K H hw k => sundellDo_call H hw.1 hw.2.1 hw.2.2 k
end
section
open Mod
section
variable {x : Run} {sl th : Int}
end
end
section
open Mod
section
variable {x : Run} {L sl th : Int}
end
end
section
open Mod
section
variable {x : Run} {L sl th : Int}
end
end
section
open Mod
section
variable {K : Value → Heap → Prop} {h : Heap} {M : Nat} {Ts : List Nat} {R : Hp} {d : Run → Run} {W : Run → Prop} {ins : Int} {Inv : Nat → Mac → Prop} {m : Mac}
theorem inv_le (G : GoodI d W ins Inv) {i : Nat} : ∀ {j : Nat}, i ≤ j → Inv i m → Inv j m
  | 0, h, H => by
    have : i = 0 := by omega
    subst this; exact H
  | j + 1, h, H => by
    by_cases e : i = j + 1
    · subst e; exact H
    · exact G.mono j m (inv_le G (by omega) H)
theorem thrAt_some {m : Mac} {k : Nat} (h : k < m.th.length) : m.th[k]? = some (thrAt m k) := by
  unfold thrAt; rw [List.getElem?_eq_getElem h]; simp [h]
theorem thrAt_set {m z : Mac} {k : Nat} {t : Thr} (h : k < m.th.length) : thrAt (z.setTh (m.th.set k t)) k = t := by
  unfold thrAt Mod.Mac.setTh
  rw [List.getD_eq_getElem?_getD]
  simp [h]
theorem al1 {i n N : Nat} (h : N - i = n + 1) : i + 1 ≤ N := by omega
theorem al4 {i n N : Nat} (h : N - i = n + 1) : N - (i + 1) = n := by omega
theorem al2 (i : Nat) (h : i < 100000) : ((100000 : Int) - ((i + 1 : Nat) : Int)).toNat < ((100000 : Int) - (i : Int)).toNat := by omega
theorem al3 {i i0 n N : Nat} (h : N - i = n + 1) (h2 : i0 + N ≤ 90000) : i < 100000 := by omega
theorem al5 {i i0 n N : Nat} (h : N - i = n + 1) (h2 : i0 + N ≤ 90000) : i0 + i < 100000 := by omega
theorem al6 {i i0 n N : Nat} (h : N - i = n + 1) : i0 + i + 1 ≤ i0 + N := by omega
theorem s64_nat2 (j : Nat) (h : j < 100000) : s64 ((j : Int) + 1) = ((j + 1 : Nat) : Int) := by unfold s64; omega
theorem setTh_same {m : Mac} {k : Nat} (h : k < m.th.length) : m.setTh (m.th.set k (thrAt m k)) = m := by
  have ht := thrAt_some h
  unfold Mod.Mac.setTh
  have : m.th.set k (thrAt m k) = m.th := by
    apply List.ext_getElem (by simp)
    intro i h1 h2
    rw [List.getElem_set]
    split
    · rename_i e; subst e; exact (List.getElem?_eq_some_iff.1 ht).2.symm ▸ rfl
    · rfl
  rw [this]
theorem alone_call {f : Nat} (D : DoC f d W) (G : GoodI d W ins Inv) (hins : 0 ≤ ins ∧ ins ≤ 100) {k T i0 N : Nat} {t : Thr} {c : Cl} {m' : Mac} (H : Sat h (machS M Ts m * R)) (hT : Ts[k]? = some T) (ht : m.th[k]? = some t) (he : t.fr = []) (hI : Inv i0 m) (hi0 : i0 + N ≤ 90000)
    (hc : (0 ≤ c.op ∧ c.op ≤ 2) ∧ V c.key ∧ V c.val) (ha : alone d k N (m.setTh (m.th.set k (t.push (ins + c.op) [c.key, c.val]))) = some m')
    (kk : ∀ h', Inv (i0 + N) m' → m'.th.length = m.th.length → (thrAt m' k).fr = [] → Sat h' (machS M Ts m' * R) → K (.tuple #[.agg #[.int .i64 (ansOf (thrAt m' k)).op, .int .u32 (ansOf (thrAt m' k)).key, .int .u32 (ansOf (thrAt m' k)).val], .bool true]) h') :
    CallH Tryz.prog 21 #[.agg #[.func (.func f) #[] #[], .int .i64 ins], mP M, .int .i64 k, .agg #[.int .i64 c.op, .int .u32 c.key, .int .u32 c.val]] h K := by
  refine call21 ?_
  unfold F21 g21 cf lI
  have hlt : k < m.th.length := (List.getElem?_eq_some_iff.1 ht).1
  have H1 := H.push (.cells #[.func (.func f) #[] #[], .int .i64 ins] 37)
  generalize h.push (.cells #[.func (.func f) #[] #[], .int .i64 ins] 37) = h1 at *
  generalize h.size = QB at *
  have H2 := H1.push (.cells (clc c).toArray 53)
  rw [show (.cells #[.int .i64 c.op, .int .u32 c.key, .int .u32 c.val] 53 : Obj) = .cells (clc c).toArray 53 from rfl]
  generalize h1.push (.cells (clc c).toArray 53) = h2 at *
  generalize h1.size = CB at *
  have H3 := H2.push (.cells (clc cl0).toArray 49)
  rw [show (.cells #[.int .i64 0, .int .u32 0, .int .u32 0] 49 : Obj) = .cells (clc cl0).toArray 49 from rfl]
  generalize h2.push (.cells (clc cl0).toArray 49) = h3 at *
  generalize h2.size = AB at *
  have H4 : Sat h3 (machS M Ts m * (pt QB (.cells #[.func (.func f) #[] #[], .int .i64 ins] 37) * (pt CB (.cells (clc c).toArray 53) * (pt AB (.cells (clc cl0).toArray 49) * R)))) := Sat.ac H3 (by ac_rfl)
  refine callV_fn (thread_call H4 (fun hh => by omega) fun T2 _ hT2 => ?_)
  rw [Int.toNat_natCast, hT] at hT2
  cases hT2
  try simp only [nilC, bsx, Nat.reduceAdd, Int.reduceLE, Int.reduceLT, Int.reduceToNat]
  obtain ⟨⟨op0, op2⟩, hkey, hval⟩ := hc
  have hu1 : Mod.u64 c.key = c.key := by have := hkey.1; have := hkey.2; unfold Mod.u64; omega
  have hu2 : Mod.u64 c.val = c.val := by have := hval.1; have := hval.2; unfold Mod.u64; omega
  have hu3 : s64 (ins + c.op) = ins + c.op := by unfold s64; omega
  refine ldR H4.at2 rfl ?_
  try simp only [nilC, bsx, Nat.reduceAdd, Int.reduceLE, Int.reduceLT, Int.reduceToNat]
  refine ldR H4.at3 rfl ?_
  try simp only [nilC, bsx, Nat.reduceAdd, Int.reduceLE, Int.reduceLT, Int.reduceToNat]
  refine ldR H4.at3 rfl ?_
  try simp only [nilC, bsx, Nat.reduceAdd, Int.reduceLE, Int.reduceLT, Int.reduceToNat]
  refine ldR H4.at3 rfl ?_
  try simp only [nilC, bsx, Nat.reduceAdd, Int.reduceLE, Int.reduceLT, Int.reduceToNat, hu1, hu2, hu3]
  obtain ⟨tv, Q, H5, re⟩ := machS_take H4 hT ht
  refine callV_fn (rPushN H5 [c.key, c.val] rfl (two_U ⟨hkey.1, by have := hkey.2; omega⟩ ⟨hval.1, by have := hval.2; omega⟩) (by omega) (by show t.fr.length < _; rw [he]; decide) fun h4 b o _ _ H6 => ?_)
  have H7 := re h4 _ _ rfl (RunS.none H6)
  have hI1 := G.push i0 m k t c hI ht he ⟨op0, op2⟩ hkey hval
  have hm0 : (thrAt (m.setTh (m.th.set k (t.push (ins + c.op) [c.key, c.val]))) k).fr ≠ [] := by
    rw [thrAt_set hlt]; unfold Mod.Thr.push; simp
  have hl0 : (m.setTh (m.th.set k (t.push (ins + c.op) [c.key, c.val]))).th.length = m.th.length := by
    show (m.th.set k _).length = _; rw [List.length_set]
  have H7 : Sat h4 (machS M Ts (m.setTh (m.th.set k (t.push (ins + c.op) [c.key, c.val]))) * (pt QB (.cells #[.func (.func f) #[] #[], .int .i64 ins] 37) * (pt CB (.cells (clc c).toArray 53) * (pt AB (.cells (clc cl0).toArray 49) * R)))) := H7
  generalize m.setTh (m.th.set k (t.push (ins + c.op) [c.key, c.val])) = m0 at *
  try simp only [nilC, bsx, Nat.reduceAdd, Int.reduceLE, Int.reduceLT, Int.reduceToNat]
  refine ⟨fun vs h' => ∃ (i : Nat) (w : Value) (mi : Mac), vs = [w, .int .i64 i] ∧ i ≤ N ∧ alone d k (N - i) mi = some m' ∧ Inv (i0 + i) mi ∧ mi.th.length = m.th.length ∧ (thrAt mi k).fr ≠ [] ∧ Sat h' (machS M Ts mi * (pt QB (.cells #[.func (.func f) #[] #[], .int .i64 ins] 37) * (pt CB (.cells (clc c).toArray 53) * (pt AB (.cells (clc cl0).toArray 49) * R)))), fun vs _ => match vs with | [_, .int _ i] => (100000 - i).toNat | _ => 0, ⟨0, _, m0, rfl, Nat.zero_le _, ha, hI1, hl0, hm0, H7⟩, ?_⟩
  rintro v21 v22 g23 h24 ⟨i, w, mi, e, hi, hai, hIi, hli, hfi, H8⟩
  cases e
  try simp only [nilC, bsx, Nat.reduceAdd, Int.reduceLE, Int.reduceLT, Int.reduceToNat]
  have hN : ∃ n, N - i = n + 1 := by
    cases hNi : N - i with
    | zero => rw [hNi] at hai; unfold alone at hai; cases hai
    | succ n => exact ⟨n, rfl⟩
  obtain ⟨n, hn⟩ := hN
  rw [hn] at hai
  unfold alone at hai
  have hfl : mi.fault = false := by
    cases hh : mi.fault with
    | false => rfl
    | true => rw [hh] at hai; simp at hai
  rw [hfl] at hai
  simp only [Bool.false_eq_true, if_false] at hai
  refine ⟨fun vs h' => vs = [.bool true] ∧ Sat h' (machS M Ts mi * (pt QB (.cells #[.func (.func f) #[] #[], .int .i64 ins] 37) * (pt CB (.cells (clc c).toArray 53) * (pt AB (.cells (clc cl0).toArray 49) * R)))), ?_, ?_⟩
  · have e1 : decide ((i : Int) < 100000) = true := decide_eq_true (by have := al3 hn hi0; exact Int.ofNat_lt.2 this)
    rw [e1]
    simp only [ifB_true]
    obtain ⟨a, cc, hl, H9⟩ := machS_iff.1 H8
    refine callV_fn (fault_call H9 fun h' H10 => ?_)
    rw [hfl]
    try simp only [nilC, bsx, Nat.reduceAdd, Int.reduceLE, Int.reduceLT, Int.reduceToNat]
    exact machS_iff.2 ⟨a, cc, hl, H10⟩
  rintro v30 g31 h32 ⟨e, H9⟩
  cases e
  try simp only [nilC, bsx, Nat.reduceAdd, Int.reduceLE, Int.reduceLT, Int.reduceToNat]
  refine ldR H9.at2 rfl ?_
  have hlt2 : k < mi.th.length := by omega
  obtain ⟨nn, z, hb, hs, hid, hzt, hI2⟩ := G.step (i0 + i) mi k _ hIi (al5 hn hi0) (thrAt_some hlt2) hfi
  refine callV_fn (stepLoop_call D H9 (n := nn) (z := z) (i := k) (by omega) (by rw [Int.toNat_natCast]; exact thrAt_some hlt2) hb hs hid fun h' H10 => ?_)
  rw [Int.toNat_natCast] at H10
  have hstep : mi.step k d 40 = some (!z.t.fr.isEmpty, z.m.setTh (mi.th.set k z.t)) := by
    unfold Mod.Mac.step at hai ⊢
    rw [if_neg (by omega), Int.toNat_natCast] at hai ⊢
    cases hb4 : Mod.bits d 40 ⟨{ mi with acted := false }, mi.th.getD k (thr0 mi.p.c), k⟩ with
    | none => rw [hb4] at hai; cases hai
    | some y =>
      have ey : z = y := bits_det hb hb4
      subst ey
      show some (!z.t.fr.isEmpty, { z.m with th := z.m.th.set k z.t }) = _
      rw [hzt]
      rfl
  rw [hstep] at hai
  try simp only [nilC, bsx, Nat.reduceAdd, Int.reduceLE, Int.reduceLT, Int.reduceToNat]
  cases hzf : z.t.fr with
  | nil =>
    rw [hzf] at hai
    have hm' : z.m.setTh (mi.th.set k z.t) = m' := Option.some.inj hai
    rw [hm'] at H10 hI2
    have hthr : thrAt m' k = z.t := by rw [← hm']; exact thrAt_set hlt2
    have hl9 : m'.th.length = m.th.length := by
      rw [← hm']; show (mi.th.set k z.t).length = _; rw [List.length_set]; exact hli
    have hlt9 : k < m'.th.length := by omega
    obtain ⟨tv2, Q2, H11, re2⟩ := machS_take H10 hT (thrAt_some hlt9)
    refine ifB_mk (fun _ => ?_) (fun hh => by simp at hh)
    refine callV_fn (answer_call (RunS.thr H11) fun h5 H12 => ?_)
    have H13 := re2 h5 ⟨m', thrAt m' k, k⟩ (pt QB (.cells #[.func (.func f) #[] #[], .int .i64 ins] 37) * (pt CB (.cells (clc c).toArray 53) * (pt AB (.cells (clc cl0).toArray 49) * R))) rfl (RunS.ofThr H12)
    have H13 : Sat h5 (machS M Ts (m'.setTh (m'.th.set k (thrAt m' k))) * (pt QB (.cells #[.func (.func f) #[] #[], .int .i64 ins] 37) * (pt CB (.cells (clc c).toArray 53) * (pt AB (.cells (clc cl0).toArray 49) * R)))) := H13
    rw [setTh_same hlt9] at H13
    try simp only [nilC, bsx, Nat.reduceAdd, Int.reduceLE, Int.reduceLT, Int.reduceToNat]
    refine sizeH_mk rfl (elemH_mk rfl (elemH_mk rfl (elemH_mk rfl ?_)))
    rw [rot4] at H13
    have O := H13.at
    refine st3 (stN_full (vs := clc (ansOf (thrAt m' k))) H13.at rfl (by simp [clc, oneC]) fun h6 w => ?_)
    have H14 := H13.wr w.new w.old
    refine ldR H14.at rfl (ldR H14.at rfl (ldR H14.at rfl ?_))
    rw [← rot4] at H14
    exact kk h6 (inv_le G (al6 hn) hI2) hl9 (by rw [hthr, hzf]) H14.drop2.drop2.drop2
  | cons a l =>
    rw [hzf] at hai
    have hai : alone d k n (z.m.setTh (mi.th.set k z.t)) = some m' := hai
    refine ifB_mk (fun hh => by simp at hh) (fun _ => ?_)
    have hb8 : i < 100000 := al3 hn hi0
    have e2 := s64_nat2 i hb8
    rw [e2]
    refine ⟨⟨i + 1, _, _, rfl, al1 hn, by rw [al4 hn]; exact hai, hI2, ?_, ?_, H10⟩, ?_⟩
    · show (mi.th.set k z.t).length = _; rw [List.length_set]; exact hli
    · rw [thrAt_set hlt2, hzf]; simp
    · exact al2 i hb8
end
end
section
open Mod
def lives3 (d : Run → Run) (ins : Int) (m : Mac) : Option (List Int × List Int × List Int) := do
  let (a, m) ← aloneC d ins m 0 5 1
  let (b, m) ← aloneC d ins m 0 3 2
  let (c, m) ← aloneC d ins m 1 0 0
  pure (a, b, c)
theorem aloneC_some {d : Run → Run} {ins : Int} {m m' : Mac} {op key val : Int} {r : List Int} (h : aloneC d ins m op key val = some (r, m')) :
    alone d 0 2000 (m.setTh (m.th.set 0 ((thrAt m 0).push (ins + op) [key, val]))) = some m' ∧ (thrAt m' 0).ret = r := by
  unfold aloneC at h
  cases ha : alone d 0 2000 (pushM m 0 (ins + op) [key, val]) with
  | none => rw [ha] at h; cases h
  | some y =>
    rw [ha] at h
    have h := Option.some.inj h
    obtain ⟨h1, h2⟩ := Prod.mk.inj h
    subst h2
    exact ⟨ha, h1⟩
theorem lives3_parts {d : Run → Run} {ins : Int} {m : Mac} {a b c : List Int} (h : lives3 d ins m = some (a, b, c)) : ∃ m1 m2 m3, (alone d 0 2000 (m.setTh (m.th.set 0 ((thrAt m 0).push (ins + 0) [5, 1]))) = some m1 ∧ (thrAt m1 0).ret = a) ∧ (alone d 0 2000 (m1.setTh (m1.th.set 0 ((thrAt m1 0).push (ins + 0) [3, 2]))) = some m2 ∧ (thrAt m2 0).ret = b) ∧ (alone d 0 2000 (m2.setTh (m2.th.set 0 ((thrAt m2 0).push (ins + 1) [0, 0]))) = some m3 ∧ (thrAt m3 0).ret = c) := by
  unfold lives3 at h
  cases h1 : aloneC d ins m 0 5 1 with
  | none => rw [h1] at h; cases h
  | some p1 =>
    obtain ⟨r1, m1⟩ := p1
    cases h2 : aloneC d ins m1 0 3 2 with
    | none => simp [h1, h2] at h
    | some p2 =>
      obtain ⟨r2, m2⟩ := p2
      cases h3 : aloneC d ins m2 1 0 0 with
      | none => simp [h1, h2, h3] at h
      | some p3 =>
        obtain ⟨r3, m3⟩ := p3
        simp [h1, h2, h3] at h
        obtain ⟨rfl, rfl, rfl⟩ := h
        exact ⟨m1, m2, m3, aloneC_some h1, aloneC_some h2, aloneC_some h3⟩
section
variable {K : Value → Heap → Prop} {h : Heap} {R : Hp} {d : Run → Run} {W : Run → Prop} {Inv : Nat → Mac → Prop}
theorem st2 {h : Heap} {b : Nat} {v0 v1 : Value} {K : Heap → Prop} (H : stN h ⟨b, 0, none⟩ 0 [v0, v1] K) : stH h ⟨b, 0, none⟩ v0 fun h => stH h ⟨b, 1, none⟩ v1 K := H
theorem ans_guard : Tryz.prog.eqGuardType Tryz.prog.depth 49 = false := by kernel_rfl
theorem ans_eqv : eqv Tryz.prog 10000 49 (.agg #[.int .i64 2, .int .u32 3, .int .u32 2]) (.agg #[.int .i64 2, .int .u32 3, .int .u32 2]) = some true := by kernel_rfl
theorem answer_eqv {F : Bool → Prop} (k : F true) : eqvH Tryz.prog 49 (.agg #[.int .i64 2, .int .u32 3, .int .u32 2]) (.agg #[.int .i64 2, .int .u32 3, .int .u32 2]) F := by
  unfold eqvH
  rw [ans_guard]
  show (match eqv Tryz.prog 10000 49 (.agg #[.int .i64 2, .int .u32 3, .int .u32 2]) (.agg #[.int .i64 2, .int .u32 3, .int .u32 2]) with | some b => F b | none => False)
  rw [ans_eqv]
  exact k
theorem queue26_call (H : Sat h R) (k : ∀ h', Sat h' R → K (.agg #[.func (.func 22) #[] #[], .int .i64 21]) h') : CallH Tryz.prog 9 #[] h K := by
  refine call9 ?_
  unfold F9
  have H1 := H.push (.cells #[.nilFunc, .int .i64 0] 37)
  generalize h.push (.cells #[.nilFunc, .int .i64 0] 37) = h1 at *
  generalize h.size = QB at *
  refine st2 (stN_full (vs := [.func (.func 22) #[] #[], .int .i64 21]) H1.at rfl (by simp [oneC]) fun h2 w => ?_)
  have H2 := H1.wr w.new w.old
  exact ldR H2.at rfl (ldR H2.at rfl (k h2 H2.drop))
theorem lives26_call (D : DoC 22 sundellDo W) (G : GoodI sundellDo W 21 Inv) (hI : Inv 0 (macNew ⟨1, 1, 6, 3, 1, 1, 1⟩ [] true)) (H : Sat h R) (k : ∀ h', Sat h' R → K (.bool true) h') :
    CallH Tryz.prog 7 #[] h K := by
  refine call7 ?_
  unfold F7 cf lI
  have hl : lives3 sundellDo 21 (macNew ⟨1, 1, 6, 3, 1, 1, 1⟩ [] true) = some ([0, 0, 0], [0, 0, 0], [2, 3, 2]) := lives26_eq
  obtain ⟨m1, m2, m3, ⟨a1, r1⟩, ⟨a2, r2⟩, ⟨a3, r3⟩⟩ := lives3_parts hl
  refine callV_fn (coreNew_call (c := ⟨1, 1, 6, 3, 1, 1, 1⟩) (a := none) (cc := 0) (bs := []) H (fun _ _ _ => Sees.nil _ _) (by simp) (by simp) (fun hh => by simp [okC] at hh) fun _ h1 M Ts H1 => ?_)
  obtain ⟨ta, tc, ⟨hTl, _⟩, _⟩ := machS_iff.1 H1
  have hth0 : (macNew ⟨1, 1, 6, 3, 1, 1, 1⟩ [] true).th = [thr0 ⟨1, 1, 6, 3, 1, 1, 1⟩] := rfl
  generalize hm0 : macNew ⟨1, 1, 6, 3, 1, 1, 1⟩ [] true = m0 at *
  have hl0 : m0.th.length = 1 := by rw [hth0]; rfl
  obtain ⟨T, hT⟩ : ∃ T, Ts[0]? = some T := ⟨_, List.getElem?_eq_getElem (by omega)⟩
  have he0 : (thrAt m0 0).fr = [] := by unfold thrAt; rw [hth0]; rfl
  try simp only [nilC, bsx, Nat.reduceAdd, Int.reduceLE, Int.reduceLT, Int.reduceToNat]
  refine elem20' ?_
  try simp only [nilC, bsx, Nat.reduceAdd, Int.reduceLE, Int.reduceLT, Int.reduceToNat]
  refine elem21' ?_
  try simp only [nilC, bsx, Nat.reduceAdd, Int.reduceLE, Int.reduceLT, Int.reduceToNat]
  refine callV_fn (queue26_call H1 fun h2 H2 => ?_)
  try simp only [nilC, bsx, Nat.reduceAdd, Int.reduceLE, Int.reduceLT, Int.reduceToNat]
  refine sizeH_mk rfl (elemH_mk rfl (elemH_mk rfl ?_))
  have H3 := H2.push (.cells #[.nilFunc, .int .i64 0] 37)
  generalize h2.push (.cells #[.nilFunc, .int .i64 0] 37) = h3 at *
  generalize h2.size = QB at *
  refine st2 (stN_full (vs := [.func (.func 22) #[] #[], .int .i64 21]) H3.at rfl (by simp [oneC]) fun h4 w => ?_)
  have H4 := H3.wr w.new w.old
  clear H1 H2 H3 w
  rw [star_left] at H4
  refine ldR H4.at2 rfl (ldR H4.at2 rfl ?_)
  have g1 : ∀ (r : List Int) (a b c : Int), r = [a, b, c] → r.getD 0 0 = a ∧ r.getD 1 0 = b ∧ r.getD 2 0 = c := fun r a b c e => by subst e; exact ⟨rfl, rfl, rfl⟩
  have an : ∀ (m : Mac) (a b c : Int), (thrAt m 0).ret = [a, b, c] → ansOf (thrAt m 0) = ⟨s64 a, u32 b, u32 c⟩ := fun m a b c e => by unfold ansOf; rw [e]; rfl
  refine callV_fn (alone_call (k := 0) (i0 := 0) (N := 2000) (c := ⟨0, 5, 1⟩) D G (by omega) H4 hT (thrAt_some (by omega)) he0 hI (by omega) ⟨⟨by decide, by decide⟩, ⟨by decide, by decide⟩, ⟨by decide, by decide⟩⟩ a1 fun h5 hI1 hl1 he1 H5 => ?_)
  rw [an m1 _ _ _ r1]
  try simp only [nilC, bsx, Nat.reduceAdd, Int.reduceLE, Int.reduceLT, Int.reduceToNat]
  refine elem20' ?_
  try simp only [nilC, bsx, Nat.reduceAdd, Int.reduceLE, Int.reduceLT, Int.reduceToNat]
  refine sizeH_mk rfl (elemH_mk rfl (elemH_mk rfl (elemH_mk rfl ?_)))
  try simp only [nilC, bsx, Nat.reduceAdd, Int.reduceLE, Int.reduceLT, Int.reduceToNat]
  refine elem21' ?_
  try simp only [nilC, bsx, Nat.reduceAdd, Int.reduceLE, Int.reduceLT, Int.reduceToNat]
  have H6 := H5.push (.cells #[.int .i64 0, .int .u32 0, .int .u32 0] 49)
  generalize h5.push (.cells #[.int .i64 0, .int .u32 0, .int .u32 0] 49) = h6 at *
  generalize h5.size = A1 at *
  refine st3 (stN_full (vs := [.int .i64 (s64 0), .int .u32 (u32 0), .int .u32 (u32 0)]) H6.at rfl (by simp [oneC]) fun h7 w => ?_)
  have H7 := H6.wr w.new w.old
  clear H4 H5 H6 w
  rw [star_left] at H7
  refine ldR H7.at3 rfl (ldR H7.at3 rfl ?_)
  refine callV_fn (alone_call (k := 0) (i0 := 0 + 2000) (N := 2000) (c := ⟨0, 3, 2⟩) D G (by omega) H7 hT (thrAt_some (by omega)) he1 hI1 (by omega) ⟨⟨by decide, by decide⟩, ⟨by decide, by decide⟩, ⟨by decide, by decide⟩⟩ a2 fun h8 hI2 hl2 he2 H8 => ?_)
  rw [an m2 _ _ _ r2]
  try simp only [nilC, bsx, Nat.reduceAdd, Int.reduceLE, Int.reduceLT, Int.reduceToNat]
  refine elem20' ?_
  try simp only [nilC, bsx, Nat.reduceAdd, Int.reduceLE, Int.reduceLT, Int.reduceToNat]
  refine sizeH_mk rfl (elemH_mk rfl (elemH_mk rfl (elemH_mk rfl ?_)))
  try simp only [nilC, bsx, Nat.reduceAdd, Int.reduceLE, Int.reduceLT, Int.reduceToNat]
  refine elem21' ?_
  try simp only [nilC, bsx, Nat.reduceAdd, Int.reduceLE, Int.reduceLT, Int.reduceToNat]
  have H9 := H8.push (.cells #[.int .i64 0, .int .u32 0, .int .u32 0] 49)
  generalize h8.push (.cells #[.int .i64 0, .int .u32 0, .int .u32 0] 49) = h9 at *
  generalize h8.size = A2 at *
  refine st3 (stN_full (vs := [.int .i64 (s64 0), .int .u32 (u32 0), .int .u32 (u32 0)]) H9.at rfl (by simp [oneC]) fun h10 w => ?_)
  have H10 := H9.wr w.new w.old
  clear H7 H8 H9 w
  rw [star_left] at H10
  have HQ10 := (H10.drop.drop.drop).at
  refine ldR HQ10 rfl (ldR HQ10 rfl ?_)
  refine callV_fn (alone_call (k := 0) (i0 := 0 + 2000 + 2000) (N := 2000) (c := ⟨1, 0, 0⟩) D G (by omega) H10 hT (thrAt_some (by omega)) he2 hI2 (by omega) ⟨⟨by decide, by decide⟩, ⟨by decide, by decide⟩, ⟨by decide, by decide⟩⟩ a3 fun h11 hI3 hl3 he3 H11 => ?_)
  rw [an m3 _ _ _ r3]
  try simp only [nilC, bsx, Nat.reduceAdd, Int.reduceLE, Int.reduceLT, Int.reduceToNat]
  refine elem20' ?_
  try simp only [nilC, bsx, Nat.reduceAdd, Int.reduceLE, Int.reduceLT, Int.reduceToNat]
  refine sizeH_mk rfl (elemH_mk rfl (elemH_mk rfl (elemH_mk rfl ?_)))
  try simp only [nilC, bsx, Nat.reduceAdd, Int.reduceLE, Int.reduceLT, Int.reduceToNat]
  refine elem21' ?_
  try simp only [nilC, bsx, Nat.reduceAdd, Int.reduceLE, Int.reduceLT, Int.reduceToNat]
  have H12 := H11.push (.cells #[.int .i64 0, .int .u32 0, .int .u32 0] 49)
  generalize h11.push (.cells #[.int .i64 0, .int .u32 0, .int .u32 0] 49) = h12 at *
  generalize h11.size = A3 at *
  refine st3 (stN_full (vs := [.int .i64 (s64 2), .int .u32 (u32 3), .int .u32 (u32 2)]) H12.at rfl (by simp [oneC]) fun h13 w => ?_)
  have H13 := H12.wr w.new w.old
  clear H10 H11 H12 w
  have O3 := H13.at
  have O2 := (H13.drop.drop).at
  have O1 := (H13.drop.drop.drop).at
  have z0 : s64 0 = 0 := by decide
  have z1 : ((0 : Int) == 0) = true := by decide
  refine ldR O1 rfl ?_
  try simp only [nilC, bsx, Nat.reduceAdd, Int.reduceLE, Int.reduceLT, Int.reduceToNat, z0, z1]
  refine ldR O2 rfl ?_
  try simp only [nilC, bsx, Nat.reduceAdd, Int.reduceLE, Int.reduceLT, Int.reduceToNat, z0, z1]
  refine ldR O3 rfl (ldR O3 rfl (ldR O3 rfl ?_))
  have z2 : s64 2 = 2 := by decide
  have z3 : u32 3 = 3 := by decide
  have z4 : u32 2 = 2 := by decide
  try simp only [nilC, bsx, Nat.reduceAdd, Int.reduceLE, Int.reduceLT, Int.reduceToNat, z2, z3, z4]
  exact answer_eqv (k h13 H13.drop.drop.drop.drop.drop)
end
end
section

end
section
theorem right_call {K : Value → Heap → Prop} {h : Heap} (c : Cf) (k1 : c.Right → ∀ h', Old h.size h h' → K (.bool true) h') (k0 : ¬ c.Right → ∀ h', Old h.size h h' → K (.bool false) h') :
    CallH Tryz.prog 19 #[.agg c.vals] h K := by
  refine call19 ?_
  unfold F19 g19 cf ce lI
  have p1 := pushed h c.vals 23
  rw [show h.push (.cells #[.int .i64 c.a, .int .i64 c.t, .int .i64 c.n, .int .i64 c.l, .int .i64 c.b, .int .i64 c.p, .int .i64 c.s] 23) = h.push (.cells c.vals 23) from rfl]
  generalize h.push (.cells c.vals 23) = h1 at *
  have o1 := p1.toOld
  have c1 := p1.new
  refine ⟨fun vs h' => ∃ v1 v2 v3 v4 v5 v6 b, vs = [v1, v2, v3, v4, v5, v6, .bool b] ∧ h' = h1 ∧ (b = true → ¬ c.Right) ∧ (b = false → 0 ≤ c.a ∧ c.a ≤ 2 ∧ 1 ≤ c.t ∧ c.t ≤ 6 ∧ 1 ≤ c.n ∧ c.n ≤ 64 ∧ 1 ≤ c.l ∧ c.l ≤ 6), ?_, ?_⟩
  · refine ldR c1 rfl ?_
    simp only [asInt_int]
    refine ifB_dec (fun q => ⟨_, _, _, _, _, _, _, rfl, by trivial, fun _ r => by have := r.a; omega, fun e => by cases e⟩) fun q1 => ?_
    refine ldR c1 rfl ?_
    simp only [asInt_int]
    refine ifB_dec (fun q => ⟨_, _, _, _, _, _, _, rfl, by trivial, fun _ r => by have := r.a; omega, fun e => by cases e⟩) fun q2 => ?_
    refine ldR c1 rfl ?_
    simp only [asInt_int]
    refine ifB_dec (fun q => ⟨_, _, _, _, _, _, _, rfl, by trivial, fun _ r => by have := r.t; omega, fun e => by cases e⟩) fun q3 => ?_
    refine ldR c1 rfl ?_
    simp only [asInt_int]
    refine ifB_dec (fun q => ⟨_, _, _, _, _, _, _, rfl, by trivial, fun _ r => by have := r.t; omega, fun e => by cases e⟩) fun q4 => ?_
    refine ldR c1 rfl ?_
    simp only [asInt_int]
    refine ifB_dec (fun q => ⟨_, _, _, _, _, _, _, rfl, by trivial, fun _ r => by have := r.n; omega, fun e => by cases e⟩) fun q5 => ?_
    refine ldR c1 rfl ?_
    simp only [asInt_int]
    refine ifB_dec (fun q => ⟨_, _, _, _, _, _, _, rfl, by trivial, fun _ r => by have := r.n; omega, fun e => by cases e⟩) fun q6 => ?_
    refine ldR c1 rfl ?_
    simp only [asInt_int]
    refine ifB_dec (fun q => ⟨_, _, _, _, _, _, _, rfl, by trivial, fun _ r => by have := r.l; omega, fun e => by cases e⟩) fun q7 => ?_
    refine ldR c1 rfl ?_
    simp only [asInt_int]
    refine ⟨_, _, _, _, _, _, _, rfl, by trivial, fun e r => ?_, fun e => ?_⟩
    · have := of_decide_eq_true e; have := r.l; omega
    · have := of_decide_eq_false e; omega
  rintro v17 v18 v19 v20 v21 v22 v23 g24 h25 ⟨_, _, _, _, _, _, b, e, rfl, hb1, hb0⟩
  cases e
  simp only [asBool_bool]
  refine ifB_mk (fun hb => k0 (hb1 hb) _ o1) (fun hb => ?_)
  obtain ⟨a1, a2, t1, t2, n1, n2, l1, l2⟩ := hb0 hb
  refine ⟨fun vs h' => ∃ v1 v2 v3 v4 b, vs = [v1, v2, v3, v4, .bool b] ∧ h' = h25 ∧ (b = true → ¬ c.Right) ∧ (b = false → 1 ≤ c.b ∧ c.b ≤ 16 ∧ 1 ≤ c.p ∧ c.p ≤ 16 ∧ 1 ≤ c.s ∧ c.s ≤ 64), ?_, ?_⟩
  · refine ldR c1 rfl ?_
    simp only [asInt_int]
    refine ifB_dec (fun q => ⟨_, _, _, _, _, rfl, by trivial, fun _ r => by have := r.b; omega, fun e => by cases e⟩) fun q1 => ?_
    refine ldR c1 rfl ?_
    simp only [asInt_int]
    refine ifB_dec (fun q => ⟨_, _, _, _, _, rfl, by trivial, fun _ r => by have := r.b; omega, fun e => by cases e⟩) fun q2 => ?_
    refine ldR c1 rfl ?_
    simp only [asInt_int]
    refine ifB_dec (fun q => ⟨_, _, _, _, _, rfl, by trivial, fun _ r => by have := r.p; omega, fun e => by cases e⟩) fun q3 => ?_
    refine ldR c1 rfl ?_
    simp only [asInt_int]
    refine ifB_dec (fun q => ⟨_, _, _, _, _, rfl, by trivial, fun _ r => by have := r.p; omega, fun e => by cases e⟩) fun q4 => ?_
    refine ldR c1 rfl ?_
    simp only [asInt_int]
    refine ifB_dec (fun q => ⟨_, _, _, _, _, rfl, by trivial, fun _ r => by have := r.s; omega, fun e => by cases e⟩) fun q5 => ?_
    refine ldR c1 rfl ?_
    simp only [asInt_int]
    refine ⟨_, _, _, _, _, rfl, by trivial, fun e r => ?_, fun e => ?_⟩
    · have := of_decide_eq_true e; have := r.s; omega
    · have := of_decide_eq_false e; omega
  rintro v40 v41 v42 v43 v44 g45 h46 ⟨_, _, _, _, b', e, rfl, hb1', hb0'⟩
  cases e
  simp only [asBool_bool]
  refine ifB_mk (fun hb' => k0 (hb1' hb') _ o1) (fun hb' => ?_)
  obtain ⟨b1, b2, p1', p2, s1, s2⟩ := hb0' hb'
  refine ldR c1 rfl ?_
  simp only [asInt_int]
  iterate 7 (refine ldR c1 rfl ?_)
  refine callV_fn ?_
  refine (show CallH Tryz.prog 29 #[.agg c.vals] h46 _ from call29 ?_)
  unfold F29 g29 lI
  have p2' := pushed h46 c.vals 23
  rw [show h46.push (.cells #[.int .i64 c.a, .int .i64 c.t, .int .i64 c.n, .int .i64 c.l, .int .i64 c.b, .int .i64 c.p, .int .i64 c.s] 23) = h46.push (.cells c.vals 23) from rfl]
  generalize h46.push (.cells c.vals 23) = h2 at *
  have o2 := o1.trans (p2'.toOld.mono o1.1)
  have c2 := (p2'.old h.size (by have := p1.size; omega)).trans c1
  have fin : ∀ z : Int, z = c.sent → (z < c.n ↔ c.Right) := fun z e => ⟨fun hz => ⟨⟨a1, a2⟩, ⟨t1, t2⟩, ⟨n1, n2⟩, ⟨l1, l2⟩, ⟨b1, b2⟩, ⟨p1', p2⟩, ⟨s1, s2⟩, by omega⟩, fun r => by have := r.z; omega⟩
  have fin2 : ∀ z : Int, z = c.sent → K (.bool (decide (c.n > z))) h2 := fun z e => by
    by_cases hz : z < c.n
    · rw [decide_eq_true hz]; exact k1 ((fin z e).1 hz) _ o2
    · rw [decide_eq_false hz]; exact k0 (fun r => hz ((fin z e).2 r)) _ o2
  refine ldR p2'.new rfl ?_
  simp only [asInt_int]
  refine ifB_mk (fun hz => ?_) (fun hz => ?_)
  · exact ⟨cellR c2 rfl, fin2 _ (by unfold Cf.sent; rw [if_pos (by simpa using hz)])⟩
  · exact ⟨cellR c2 rfl, fin2 _ (by unfold Cf.sent; rw [if_neg (by simpa using hz)])⟩
end
section
set_option maxHeartbeats 1000000
open Mod
theorem ag10 {v0 v1 v2 v3 v4 v5 v6 v7 v8 v9 : Value} {F : Value → Value → Value → Value → Value → Value → Value → Value → Value → Value → Prop} (k : F v0 v1 v2 v3 v4 v5 v6 v7 v8 v9) : asAgg (.agg #[v0, v1, v2, v3, v4, v5, v6, v7, v8, v9]) fun vs => sizeH vs 10 (elemH vs 0 fun a => elemH vs 1 fun b => elemH vs 2 fun c => elemH vs 3 fun d => elemH vs 4 fun e => elemH vs 5 fun f => elemH vs 6 fun g => elemH vs 7 fun i => elemH vs 8 fun j => elemH vs 9 fun l => F a b c d e f g i j l) := k
theorem ag2 {v0 v1 : Value} {F : Value → Value → Prop} (k : F v0 v1) : asAgg (.agg #[v0, v1]) fun vs => sizeH vs 2 (elemH vs 0 fun a => elemH vs 1 fun b => F a b) := k
theorem tp20 {v0 v1 : Value} {F : Value → Prop} (k : F v0) : asTup (.tuple #[v0, v1]) fun vs => elemH vs 0 F := k
theorem tp21 {v0 v1 : Value} {F : Value → Prop} (k : F v1) : asTup (.tuple #[v0, v1]) fun vs => elemH vs 1 F := k
section
variable {K : Value → Heap → Prop} {h : Heap} {R : Hp}
theorem rgt_call {c : Mod.Cf} (H : Sat h R) (k1 : okC c = true → ∀ h', Old h.size h h' → Sat h' R → K (.bool true) h') (k0 : okC c = false → ∀ h', Old h.size h h' → Sat h' R → K (.bool false) h') :
    CallH Tryz.prog 19 #[.agg #[.int .i64 c.algo, .int .i64 c.threads, .int .i64 c.nodes, .int .i64 c.level, .int .i64 c.batch, .int .i64 c.probes, .int .i64 c.scan]] h K := by
  refine right_call (toCf c) (fun hr h' o => k1 ((toCf_right c).1 hr) h' o (H.old o)) (fun hr h' o => k0 ?_ h' o (H.old o))
  rw [← Bool.not_eq_true]
  exact fun hh => hr ((toCf_right c).2 hh)
theorem right26_call {c : Mod.Cf} (H : Sat h R) (k1 : okC { c with algo := 1 } = true → ∀ h', Sat h' R → K (.bool true) h') (k0 : okC { c with algo := 1 } = false → ∀ h', Sat h' R → K (.bool false) h') :
    CallH Tryz.prog 6 #[.agg #[.int .i64 c.algo, .int .i64 c.threads, .int .i64 c.nodes, .int .i64 c.level, .int .i64 c.batch, .int .i64 c.probes, .int .i64 c.scan]] h K := by
  refine call6 ?_
  unfold F6 cf
  have H1 := H.push (.cells #[.int .i64 c.algo, .int .i64 c.threads, .int .i64 c.nodes, .int .i64 c.level, .int .i64 c.batch, .int .i64 c.probes, .int .i64 c.scan] 23)
  generalize h.push (.cells #[.int .i64 c.algo, .int .i64 c.threads, .int .i64 c.nodes, .int .i64 c.level, .int .i64 c.batch, .int .i64 c.probes, .int .i64 c.scan] 23) = h1 at *
  generalize h.size = CB at *
  refine H1.st (i := 0) rfl trivial fun h2 H2 => ?_
  have O := H2.at
  refine ldR O rfl (ldR O rfl (ldR O rfl (ldR O rfl (ldR O rfl (ldR O rfl (ldR O rfl ?_))))))
  refine callV_fn (rgt_call (c := { c with algo := 1 }) H2 (fun hc h' _ H' => ?_) fun hc h' _ H' => ?_)
  · simp only [asBool_bool]
    exact k1 hc h' H'.drop
  · simp only [asBool_bool]
    exact k0 hc h' H'.drop
theorem made26_call {c0 c : Mod.Cf} (hc : okC { c with algo := 1 } = true) {ca pa da : Option Addr} {cl cc0 pl pc0 dl dc0 : Nat} {calls : List (List Cl)} {picks draws : List Int} {n m : Nat} (H : Sat h R)
    (hS : ∀ h' P, Sat h' (P * R) → ScrI h' ca cl pa pl da dl calls picks draws) (hR : ScrR calls picks draws) (hn : n ≤ 1000) (hm : m ≤ 60000)
    (k : ∀ M h' ca' cc pa' pc da' dc ps, Sat h' (scrS ca' cc pa' pc da' dc ps (callsL c.threads.toNat n calls) (picksL c.threads m picks) (draws.take 4096) * R) → K (.tuple #[mP M, .agg #[.int .i64 1, .int .i64 c.threads, .int .i64 c.nodes, .int .i64 c.level, .int .i64 c.batch, .int .i64 c.probes, .int .i64 c.scan, .slice ca' (callsL c.threads.toNat n calls).length cc, .slice pa' (picksL c.threads m picks).length pc, .slice da' (draws.take 4096).length dc]]) h') :
    CallH Tryz.prog 8 #[.agg #[.int .i64 c0.algo, .int .i64 c0.threads, .int .i64 c0.nodes, .int .i64 c0.level, .int .i64 c0.batch, .int .i64 c0.probes, .int .i64 c0.scan, .slice ca cl cc0, .slice pa pl pc0, .slice da dl dc0], .agg #[.int .i64 c.algo, .int .i64 c.threads, .int .i64 c.nodes, .int .i64 c.level, .int .i64 c.batch, .int .i64 c.probes, .int .i64 c.scan], .int .i64 n, .int .i64 m] h K := by
  refine call8 ?_
  unfold F8 g8 q8_1 cf lS
  have H1 := H.push (.cells #[.int .i64 c0.algo, .int .i64 c0.threads, .int .i64 c0.nodes, .int .i64 c0.level, .int .i64 c0.batch, .int .i64 c0.probes, .int .i64 c0.scan, .slice ca cl cc0, .slice pa pl pc0, .slice da dl dc0] 28)
  generalize h.push (.cells #[.int .i64 c0.algo, .int .i64 c0.threads, .int .i64 c0.nodes, .int .i64 c0.level, .int .i64 c0.batch, .int .i64 c0.probes, .int .i64 c0.scan, .slice ca cl cc0, .slice pa pl pc0, .slice da dl dc0] 28) = h1 at *
  generalize h.size = SB at *
  have H2 := H1.push (.cells #[.int .i64 c.algo, .int .i64 c.threads, .int .i64 c.nodes, .int .i64 c.level, .int .i64 c.batch, .int .i64 c.probes, .int .i64 c.scan] 23)
  generalize h1.push (.cells #[.int .i64 c.algo, .int .i64 c.threads, .int .i64 c.nodes, .int .i64 c.level, .int .i64 c.batch, .int .i64 c.probes, .int .i64 c.scan] 23) = h2 at *
  generalize h1.size = CB at *
  have H3 := H2.push (.cells #[.int .i64 0, .int .i64 0, .int .i64 0, .int .i64 0, .int .i64 0, .int .i64 0, .int .i64 0, .slice none 0 0, .slice none 0 0, .slice none 0 0] 28)
  generalize h2.push (.cells #[.int .i64 0, .int .i64 0, .int .i64 0, .int .i64 0, .int .i64 0, .int .i64 0, .int .i64 0, .slice none 0 0, .slice none 0 0, .slice none 0 0] 28) = h3 at *
  generalize h2.size = RB at *
  rw [star_left] at H3
  refine H3.st (i := 0) rfl trivial fun h4 H4 => ?_
  have O := H4.at
  refine ldR O rfl (ldR O rfl (ldR O rfl (ldR O rfl (ldR O rfl (ldR O rfl (ldR O rfl ?_))))))
  refine callV_fn (rgt_call (c := { c with algo := 1 }) H4 (fun _ h9 _ H9 => ?_) fun hf => by rw [hc] at hf; cases hf)
  simp only [asBool_bool, Bool.not_true, ifB_false]
  have OC := H9.at
  have OS := H9.at3
  refine ldR OS rfl (ldR OS rfl (ldR OS rfl (ldR OS rfl (ldR OS rfl (ldR OS rfl (ldR OS rfl (ldR OS rfl (ldR OS rfl (ldR OS rfl (ldR OC rfl (ldR OC rfl (ldR OC rfl (ldR OC rfl (ldR OC rfl (ldR OC rfl (ldR OC rfl ?_))))))))))))))))
  have B := planOf_B hc
  have hth : 1 ≤ c.threads ∧ c.threads ≤ 6 := B.th
  refine callV_fn (little_call (c := { c with algo := 1 }) (c0 := c0) H9 (fun h' P H' => hS h' emp (by rw [emp_star]; exact H'.drop.drop.drop.drop)) hth hn hm fun h59 ca' cc pa' pc da' dc ps H10 => ?_)
  refine ag10 ?_
  have H11 := H10.push (.cells #[.int .i64 0, .int .i64 0, .int .i64 0, .int .i64 0, .int .i64 0, .int .i64 0, .int .i64 0, .slice none 0 0, .slice none 0 0, .slice none 0 0] 28)
  generalize h59.push (.cells #[.int .i64 0, .int .i64 0, .int .i64 0, .int .i64 0, .int .i64 0, .int .i64 0, .int .i64 0, .slice none 0 0, .slice none 0 0, .slice none 0 0] 28) = h60 at *
  generalize h59.size = TB at *
  refine st10 (stN_full (vs := scrC { c with algo := 1 } ca' (callsL c.threads.toNat n calls).length cc pa' (picksL c.threads m picks).length pc da' (draws.take 4096).length dc) H11.at rfl (by simp [scrC, oneC]) fun h80 w => ?_)
  have H12 := H11.wr w.new w.old
  have OC := (H12.drop.drop).at
  have OT := H12.at
  refine ldR OC rfl (ldR OC rfl (ldR OC rfl (ldR OC rfl (ldR OC rfl (ldR OC rfl (ldR OC rfl (ldR OT rfl ?_)))))))
  simp only [asSlice_slice]
  have sI := fun (h' : Heap) (P : Hp) (H' : Sat h' (P * (pt TB (.cells (scrC { c with algo := 1 } ca' (callsL c.threads.toNat n calls).length cc pa' (picksL c.threads m picks).length pc da' (draws.take 4096).length dc).toArray 28) * (scrS ca' cc pa' pc da' dc ps (callsL c.threads.toNat n calls) (picksL c.threads m picks) (draws.take 4096) * (pt CB (.cells #[.int .i64 1, .int .i64 c.threads, .int .i64 c.nodes, .int .i64 c.level, .int .i64 c.batch, .int .i64 c.probes, .int .i64 c.scan] 23) * (pt RB (.cells #[.int .i64 0, .int .i64 0, .int .i64 0, .int .i64 0, .int .i64 0, .int .i64 0, .int .i64 0, .slice none 0 0, .slice none 0 0, .slice none 0 0] 28) * (pt SB (.cells #[.int .i64 c0.algo, .int .i64 c0.threads, .int .i64 c0.nodes, .int .i64 c0.level, .int .i64 c0.batch, .int .i64 c0.probes, .int .i64 c0.scan, .slice ca cl cc0, .slice pa pl pc0, .slice da dl dc0] 28) * R))))))) => scrS_I H'.drop.drop
  refine callV_fn (coreNew_call (c := { c with algo := 1 }) (bs := draws.take 4096) H12 (fun h' P H' => (sI h' P H').dr) (by rw [List.length_take]; omega) (fun x hx => hR.dr x (List.mem_of_mem_take hx)) (fun hh => by rw [hc] at hh; cases hh) fun _ h93 M Ts H13 => ?_)
  refine tp20 ?_
  simp only [asPtrO_ptr]
  refine tp21 ?_
  simp only [asInt_int]
  have OT := H13.at2
  refine ldR OT rfl (ldR OT rfl (ldR OT rfl (ldR OT rfl (ldR OT rfl (ldR OT rfl (ldR OT rfl (ldR OT rfl (ldR OT rfl (ldR OT rfl ?_)))))))))
  have H14 : Sat h93 (pt RB (.cells #[.int .i64 0, .int .i64 0, .int .i64 0, .int .i64 0, .int .i64 0, .int .i64 0, .int .i64 0, .slice none 0 0, .slice none 0 0, .slice none 0 0] 28) * (scrS ca' cc pa' pc da' dc ps (callsL c.threads.toNat n calls) (picksL c.threads m picks) (draws.take 4096) * (pt TB (.cells (scrC { c with algo := 1 } ca' (callsL c.threads.toNat n calls).length cc pa' (picksL c.threads m picks).length pc da' (draws.take 4096).length dc).toArray 28) * (pt CB (.cells #[.int .i64 1, .int .i64 c.threads, .int .i64 c.nodes, .int .i64 c.level, .int .i64 c.batch, .int .i64 c.probes, .int .i64 c.scan] 23) * (pt SB (.cells #[.int .i64 c0.algo, .int .i64 c0.threads, .int .i64 c0.nodes, .int .i64 c0.level, .int .i64 c0.batch, .int .i64 c0.probes, .int .i64 c0.scan, .slice ca cl cc0, .slice pa pl pc0, .slice da dl dc0] 28) * R))))) := Sat.ac H13.drop (by ac_rfl)
  refine st10 (stN_full (vs := scrC { c with algo := 1 } ca' (callsL c.threads.toNat n calls).length cc pa' (picksL c.threads m picks).length pc da' (draws.take 4096).length dc) H14.at rfl (by simp [scrC, oneC]) fun h94 w => ?_)
  have H15 := H14.wr w.new w.old
  have OR := H15.at
  refine ldR OR rfl (ldR OR rfl (ldR OR rfl (ldR OR rfl (ldR OR rfl (ldR OR rfl (ldR OR rfl (ldR OR rfl (ldR OR rfl (ldR OR rfl ?_)))))))))
  exact k M h94 ca' cc pa' pc da' dc ps H15.drop.drop2.drop2.drop2
theorem sundell_un : ∀ x : Run, sundellDo x.un = (sundellDo x).un := fun x => sundellDo_un x
theorem sundellBlind_body {c0 c : Mod.Cf} {ca pa da : Option Addr} {cl cc0 pl pc0 dl dc0 : Nat} {calls : List (List Cl)} {picks draws : List Int} (H : Sat h R)
    (hS : ∀ h' P, Sat h' (P * R) → ScrI h' ca cl pa pl da dl calls picks draws) (hR : ScrR calls picks draws) (k : ∀ h', Sat h' R → K (.bool true) h') :
    CallH Tryz.prog 3 #[.agg #[.int .i64 c0.algo, .int .i64 c0.threads, .int .i64 c0.nodes, .int .i64 c0.level, .int .i64 c0.batch, .int .i64 c0.probes, .int .i64 c0.scan, .slice ca cl cc0, .slice pa pl pc0, .slice da dl dc0], .agg #[.int .i64 c.algo, .int .i64 c.threads, .int .i64 c.nodes, .int .i64 c.level, .int .i64 c.batch, .int .i64 c.probes, .int .i64 c.scan]] h K := by
  refine call3 ?_
  unfold F3 g3 cf ce
  have H1 := H.push (.cells #[.int .i64 c0.algo, .int .i64 c0.threads, .int .i64 c0.nodes, .int .i64 c0.level, .int .i64 c0.batch, .int .i64 c0.probes, .int .i64 c0.scan, .slice ca cl cc0, .slice pa pl pc0, .slice da dl dc0] 28)
  generalize h.push (.cells #[.int .i64 c0.algo, .int .i64 c0.threads, .int .i64 c0.nodes, .int .i64 c0.level, .int .i64 c0.batch, .int .i64 c0.probes, .int .i64 c0.scan, .slice ca cl cc0, .slice pa pl pc0, .slice da dl dc0] 28) = h1 at *
  generalize h.size = SB at *
  have H2 := H1.push (.cells #[.int .i64 c.algo, .int .i64 c.threads, .int .i64 c.nodes, .int .i64 c.level, .int .i64 c.batch, .int .i64 c.probes, .int .i64 c.scan] 23)
  generalize h1.push (.cells #[.int .i64 c.algo, .int .i64 c.threads, .int .i64 c.nodes, .int .i64 c.level, .int .i64 c.batch, .int .i64 c.probes, .int .i64 c.scan] 23) = h2 at *
  generalize h1.size = CB at *
  have lives : ∀ {h' : Heap} {P : Hp}, Sat h' (P * R) → CallH Tryz.prog 7 #[] h' fun v h'' => asBool v fun b => K (.bool b) h'' := by
    intro h' P H'
    refine lives26_call sundell_DoC (MacOk.good sundell_good) (MacOk.new rfl _ _) H' fun h'' H'' => ?_
    simp only [asBool_bool]
    exact k h'' H''.drop
  have O := H2.at
  refine ldR O rfl (ldR O rfl (ldR O rfl (ldR O rfl (ldR O rfl (ldR O rfl (ldR O rfl ?_))))))
  refine callV_fn (right26_call H2 (fun hc h8 H8 => ?_) fun _ h8 H8 => ?_)
  rotate_left
  · simp only [asBool_bool, Bool.not_false, ifB_true]
    exact callV_fn (lives H8.drop)
  simp only [asBool_bool, Bool.not_true, ifB_false]
  have OC := H8.at
  have OS := H8.at2
  refine ldR OS rfl (ldR OS rfl (ldR OS rfl (ldR OS rfl (ldR OS rfl (ldR OS rfl (ldR OS rfl (ldR OS rfl (ldR OS rfl (ldR OS rfl (ldR OC rfl (ldR OC rfl (ldR OC rfl (ldR OC rfl (ldR OC rfl (ldR OC rfl (ldR OC rfl ?_))))))))))))))))
  refine callV_fn (made26_call (n := 4) (m := 2000) (c0 := c0) hc H8 (fun h' P H' => hS h' emp (by rw [emp_star]; exact H'.drop.drop.drop)) hR (by decide) (by decide) fun M h31 ca' cc pa' pc da' dc ps H9 => ?_)
  have B := planOf_B hc
  have hth : 1 ≤ c.threads ∧ c.threads ≤ 6 := B.th
  refine tp20 ?_
  simp only [asPtrO_ptr]
  refine tp21 ?_
  refine ag10 ?_
  have H10 := H9.push (.cells #[.int .i64 0, .int .i64 0, .int .i64 0, .int .i64 0, .int .i64 0, .int .i64 0, .int .i64 0, .slice none 0 0, .slice none 0 0, .slice none 0 0] 28)
  generalize h31.push (.cells #[.int .i64 0, .int .i64 0, .int .i64 0, .int .i64 0, .int .i64 0, .int .i64 0, .int .i64 0, .slice none 0 0, .slice none 0 0, .slice none 0 0] 28) = h32 at *
  generalize h31.size = TB at *
  refine st10 (stN_full (vs := scrC { c with algo := 1 } ca' (callsL c.threads.toNat 4 calls).length cc pa' (picksL c.threads 2000 picks).length pc da' (draws.take 4096).length dc) H10.at rfl (by simp [scrC, oneC]) fun h57 w => ?_)
  have H11 := H10.wr w.new w.old
  have OT := H11.at
  refine ldR OT rfl (ldR OT rfl (ldR OT rfl (ldR OT rfl (ldR OT rfl (ldR OT rfl (ldR OT rfl (ldR OT rfl (ldR OT rfl (ldR OT rfl ?_)))))))))
  refine callV_fn (queue26_call H11 fun h69 H12 => ?_)
  refine ag2 ?_
  have OT := H12.at
  repeat (refine ⟨cellR OT rfl, ?_⟩)
  refine callV_fn (blind_call (c := { c with algo := 1 }) (ins := 21) sundell_DoC (MacOk.good (c := { c with algo := 1 }) sundell_good) sundell_un (by decide) hc (fun g => MacOk.new hc _ g) (scrL_ok hth hR (by decide) (by decide)) (callsL_len _ _ _) (by rw [List.length_take]; omega) (fun x hx => hR.dr x (List.mem_of_mem_take hx)) H12 (fun h' P H' => scrS_I H'.drop.drop) fun h74 H13 => ?_)
  simp only [asBool_bool, ifB_true]
  exact callV_fn (lives H13.drop.drop.drop)
end
end
end Go.Proofs.YtglgifgoojncpaaGreat
