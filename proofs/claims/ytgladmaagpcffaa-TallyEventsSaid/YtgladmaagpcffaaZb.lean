/- Calls and answers: which may be, which fit. -/
import Derived.Test.YtgladmaagpcffaaZa
import Derived.Test.YtgladmaagpcffaaYf
import Derived.Test.YtgladmaagpcffaaFk
set_option linter.unusedSimpArgs false
set_option linter.unusedVariables false
set_option maxRecDepth 20000
namespace Go.Proofs.Ytgladmaagpcffaa

/-- A call, or an answer. -/
structure C3 where
  o : Int
  k : Int
  v : Int
abbrev C3.cells (c : C3) : List Value := [.int .i64 c.o, .int .u32 c.k, .int .u32 c.v]
def zeroC : C3 := ⟨0, 0, 0⟩
def C3.is0 (c : C3) : Bool := c.o == 0 && (c.k == 0 && c.v == 0)
def rightC (c : C3) : Bool := c.o == 0 || ((c.o == 1 || c.o == 2) && (c.k == 0 && c.v == 0))
def rightA (a : C3) : Bool := a.o == 2 || ((a.o == 0 || (a.o == 1 || a.o == 3)) && (a.k == 0 && a.v == 0))
def fitsB (c a : C3) : Bool := rightC c && (rightA a && ((c.o == 0) == (a.o == 0 || a.o == 1)))

theorem callRight_call {K : Value → Heap → Prop} {h : Heap} {c : C3} (k : ∀ h', Old h.size h h' → K (.bool (rightC c)) h') : CallH Try.prog 165 #[.agg c.cells.toArray] h K := by
  refine call165 ?_
  unfold F165
  have p := pushed h c.cells.toArray 57
  rw [show h.push (.cells #[.int .i64 c.o, .int .u32 c.k, .int .u32 c.v] 57) = h.push (.cells c.cells.toArray 57) from rfl]
  generalize h.push (.cells c.cells.toArray 57) = h1 at *
  have kk := k _ p.toOld
  unfold rightC at kk
  refine ldR p.new rfl ?_
  simp only [asInt_int]
  refine ifB_mk (fun e => by rw [e] at kk; exact kk) (fun e => ?_)
  rw [e, Bool.false_or] at kk
  refine ⟨fun vs h' => vs = [.bool (c.o == 1 || c.o == 2)] ∧ h' = h1, ?_, ?_⟩
  · refine ifB_mk (fun e1 => ⟨by rw [e1]; rfl, rfl⟩) (fun e1 => ⟨by rw [e1, Bool.false_or], rfl⟩)
  rintro v3 g4 h5 ⟨e3, rfl⟩
  cases e3
  simp only [asBool_bool]
  refine ifB_mk (fun e1 => ?_) (fun e1 => by rw [e1] at kk; exact kk)
  rw [e1, Bool.true_and] at kk
  refine ldR p.new rfl ?_
  simp only [asInt_int]
  refine ifB_mk (fun e2 => ?_) (fun e2 => by rw [e2] at kk; exact kk)
  rw [e2, Bool.true_and] at kk
  refine ldR p.new rfl ?_
  simp only [asInt_int]
  exact kk
theorem refRight_call {K : Value → Heap → Prop} {h : Heap} {c : C3} (k : ∀ h', Old h.size h h' → K (.bool (rightC c)) h') : CallH Try.prog 135 #[.agg c.cells.toArray] h K := by
  refine call135 ?_
  unfold F135
  have p := pushed h c.cells.toArray 57
  rw [show h.push (.cells #[.int .i64 c.o, .int .u32 c.k, .int .u32 c.v] 57) = h.push (.cells c.cells.toArray 57) from rfl]
  generalize h.push (.cells c.cells.toArray 57) = h1 at *
  have kk := k _ p.toOld
  unfold rightC at kk
  refine ldR p.new rfl ?_
  simp only [asInt_int]
  refine ifB_mk (fun e => by rw [e] at kk; exact kk) (fun e => ?_)
  rw [e, Bool.false_or] at kk
  refine ldR p.new rfl ?_
  simp only [asInt_int]
  refine ifB_mk (fun e1 => ?_) (fun e1 => ?_)
  · rw [e1, Bool.true_or, Bool.true_and] at kk
    refine ldR p.new rfl ?_
    simp only [asInt_int]
    refine ifB_mk (fun e2 => ?_) (fun e2 => by rw [e2] at kk; exact kk)
    rw [e2, Bool.true_and] at kk
    refine ldR p.new rfl ?_
    simp only [asInt_int]
    exact kk
  · rw [e1, Bool.false_or] at kk
    refine ldR p.new rfl ?_
    simp only [asInt_int]
    refine ifB_mk (fun e1 => ?_) (fun e1 => by rw [e1] at kk; exact kk)
    rw [e1, Bool.true_and] at kk
    refine ldR p.new rfl ?_
    simp only [asInt_int]
    refine ifB_mk (fun e2 => ?_) (fun e2 => by rw [e2] at kk; exact kk)
    rw [e2, Bool.true_and] at kk
    refine ldR p.new rfl ?_
    simp only [asInt_int]
    exact kk
theorem ansRight_call {K : Value → Heap → Prop} {h : Heap} {c : C3} (k : ∀ h', Old h.size h h' → K (.bool (rightA c)) h') : CallH Try.prog 148 #[.agg c.cells.toArray] h K := by
  refine call148 ?_
  unfold F148
  have p := pushed h c.cells.toArray 59
  rw [show h.push (.cells #[.int .i64 c.o, .int .u32 c.k, .int .u32 c.v] 59) = h.push (.cells c.cells.toArray 59) from rfl]
  generalize h.push (.cells c.cells.toArray 59) = h1 at *
  have kk := k _ p.toOld
  unfold rightA at kk
  refine ldR p.new rfl ?_
  simp only [asInt_int]
  refine ifB_mk (fun e => by rw [e] at kk; exact kk) (fun e => ?_)
  rw [e, Bool.false_or] at kk
  refine ⟨fun vs h' => vs = [.bool (c.o == 0 || (c.o == 1 || c.o == 3))] ∧ h' = h1, ?_, ?_⟩
  · refine ifB_mk (fun e1 => ⟨by rw [e1]; rfl, rfl⟩) (fun e1 => ?_)
    refine ifB_mk (fun e2 => ⟨by rw [e1, e2]; rfl, rfl⟩) (fun e2 => ⟨by rw [e1, e2, Bool.false_or, Bool.false_or], rfl⟩)
  rintro v3 g4 h5 ⟨e3, rfl⟩
  cases e3
  simp only [asBool_bool]
  refine ifB_mk (fun e1 => ?_) (fun e1 => by rw [e1] at kk; exact kk)
  rw [e1, Bool.true_and] at kk
  refine ldR p.new rfl ?_
  simp only [asInt_int]
  refine ifB_mk (fun e2 => ?_) (fun e2 => by rw [e2] at kk; exact kk)
  rw [e2, Bool.true_and] at kk
  refine ldR p.new rfl ?_
  simp only [asInt_int]
  exact kk
theorem refMay_call {K : Value → Heap → Prop} {h : Heap} {c : C3} (k : ∀ h', Old h.size h h' → K (.bool (rightA c)) h') : CallH Try.prog 152 #[.agg c.cells.toArray] h K := by
  refine call152 ?_
  unfold F152
  have p := pushed h c.cells.toArray 59
  rw [show h.push (.cells #[.int .i64 c.o, .int .u32 c.k, .int .u32 c.v] 59) = h.push (.cells c.cells.toArray 59) from rfl]
  generalize h.push (.cells c.cells.toArray 59) = h1 at *
  have kk := k _ p.toOld
  unfold rightA at kk
  refine ldR p.new rfl ?_
  simp only [asInt_int]
  refine ifB_mk (fun e => by rw [e] at kk; exact kk) (fun e => ?_)
  rw [e, Bool.false_or] at kk
  refine ldR p.new rfl ?_
  simp only [asInt_int]
  refine ifB_mk (fun e1 => ?_) (fun e1 => ?_)
  · rw [e1, Bool.true_or, Bool.true_and] at kk
    refine ldR p.new rfl ?_
    simp only [asInt_int]
    refine ifB_mk (fun e2 => ?_) (fun e2 => by rw [e2] at kk; exact kk)
    rw [e2, Bool.true_and] at kk
    refine ldR p.new rfl ?_
    simp only [asInt_int]
    exact kk
  · rw [e1, Bool.false_or] at kk
    refine ldR p.new rfl ?_
    simp only [asInt_int]
    refine ifB_mk (fun e1 => ?_) (fun e1 => ?_)
    · rw [e1, Bool.true_or, Bool.true_and] at kk
      refine ldR p.new rfl ?_
      simp only [asInt_int]
      refine ifB_mk (fun e2 => ?_) (fun e2 => by rw [e2] at kk; exact kk)
      rw [e2, Bool.true_and] at kk
      refine ldR p.new rfl ?_
      simp only [asInt_int]
      exact kk
    · rw [e1, Bool.false_or] at kk
      refine ldR p.new rfl ?_
      simp only [asInt_int]
      refine ifB_mk (fun e1 => ?_) (fun e1 => by rw [e1] at kk; exact kk)
      rw [e1, Bool.true_and] at kk
      refine ldR p.new rfl ?_
      simp only [asInt_int]
      refine ifB_mk (fun e2 => ?_) (fun e2 => by rw [e2] at kk; exact kk)
      rw [e2, Bool.true_and] at kk
      refine ldR p.new rfl ?_
      simp only [asInt_int]
      exact kk

theorem fits_call {K : Value → Heap → Prop} {h : Heap} {c a : C3} (k : ∀ h', Old h.size h h' → K (.bool (fitsB c a)) h') : CallH Try.prog 164 #[.agg c.cells.toArray, .agg a.cells.toArray] h K := by
  refine call164 ?_
  unfold F164
  have p := pushed h c.cells.toArray 57
  rw [show h.push (.cells #[.int .i64 c.o, .int .u32 c.k, .int .u32 c.v] 57) = h.push (.cells c.cells.toArray 57) from rfl]
  generalize h.push (.cells c.cells.toArray 57) = h1 at *
  have s1 := p.size
  have p2 := pushed h1 a.cells.toArray 59
  rw [show h1.push (.cells #[.int .i64 a.o, .int .u32 a.k, .int .u32 a.v] 59) = h1.push (.cells a.cells.toArray 59) from rfl]
  generalize h1.push (.cells a.cells.toArray 59) = h2 at *
  have e2 : h2[h.size]? = some (.cells c.cells.toArray 57) := (p2.old _ (by omega)).trans p.new
  have o2 := p.toOld.trans (p2.toOld.mono (by omega))
  have s2 := p2.size
  refine ⟨fun vs h' => vs = [.bool (!(rightC c && rightA a))] ∧ Old h2.size h2 h', ?_, ?_⟩
  · refine ldR e2 rfl (ldR e2 rfl (ldR e2 rfl ?_))
    refine callV_fn (callRight_call (c := c) fun h5 o5 => ?_)
    simp only [asBool_bool]
    refine ifB_mk (fun e => ⟨by simp at e; rw [e]; rfl, o5⟩) (fun e => ?_)
    have e5 := (o5.2 _ (by omega)).trans p2.new
    refine ldR e5 rfl (ldR e5 rfl (ldR e5 rfl ?_))
    refine callV_fn (ansRight_call (c := a) fun h11 o11 => ?_)
    simp only [asBool_bool]
    refine ⟨?_, o5.trans (o11.mono o5.1)⟩
    have : rightC c = true := by simpa using e
    rw [this, Bool.true_and]
  rintro v13 g14 h15 ⟨e, o15⟩
  cases e
  simp only [asBool_bool]
  have kk := k _ (o2.trans (o15.mono o2.1))
  unfold fitsB at kk
  refine ifB_mk (fun e => ?_) (fun e => ?_)
  · have : (rightC c && rightA a) = false := by revert e; cases (rightC c && rightA a) <;> intro e <;> first | rfl | cases e
    rw [← Bool.and_assoc, this] at kk
    exact kk
  · have : (rightC c && rightA a) = true := by revert e; cases (rightC c && rightA a) <;> intro e <;> first | rfl | cases e
    rw [← Bool.and_assoc, this, Bool.true_and] at kk
    have c15 := (o15.2 _ (by omega)).trans e2
    have a15 := (o15.2 _ (by omega)).trans p2.new
    refine ldR c15 rfl ?_
    simp only [asInt_int]
    refine ldR a15 rfl ?_
    simp only [asInt_int]
    refine ifB_mk (fun e1 => by rw [e1, Bool.true_or] at kk; exact kk) (fun e1 => ?_)
    rw [e1, Bool.false_or] at kk
    refine ldR a15 rfl ?_
    simp only [asInt_int]
    exact kk
theorem refFits_call {K : Value → Heap → Prop} {h : Heap} {c a : C3} (k : ∀ h', Old h.size h h' → K (.bool (fitsB c a)) h') : CallH Try.prog 134 #[.agg c.cells.toArray, .agg a.cells.toArray] h K := by
  refine call134 ?_
  unfold F134
  have p := pushed h c.cells.toArray 57
  rw [show h.push (.cells #[.int .i64 c.o, .int .u32 c.k, .int .u32 c.v] 57) = h.push (.cells c.cells.toArray 57) from rfl]
  generalize h.push (.cells c.cells.toArray 57) = h1 at *
  have s1 := p.size
  have p2 := pushed h1 a.cells.toArray 59
  rw [show h1.push (.cells #[.int .i64 a.o, .int .u32 a.k, .int .u32 a.v] 59) = h1.push (.cells a.cells.toArray 59) from rfl]
  generalize h1.push (.cells a.cells.toArray 59) = h2 at *
  have e2 : h2[h.size]? = some (.cells c.cells.toArray 57) := (p2.old _ (by omega)).trans p.new
  have o2 := p.toOld.trans (p2.toOld.mono (by omega))
  have s2 := p2.size
  refine ldR e2 rfl (ldR e2 rfl (ldR e2 rfl ?_))
  refine callV_fn (refRight_call (c := c) fun h5 o5 => ?_)
  simp only [asBool_bool]
  have ok5 := o2.trans (o5.mono o2.1)
  refine ifB_mk (fun e => ?_) (fun e => by have kk := k _ ok5; unfold fitsB at kk; rw [e] at kk; exact kk)
  have e5 := (o5.2 _ (by omega)).trans p2.new
  refine ldR e5 rfl (ldR e5 rfl (ldR e5 rfl ?_))
  refine callV_fn (refMay_call (c := a) fun h10 o10 => ?_)
  simp only [asBool_bool]
  have ok10 := ok5.trans (o10.mono ok5.1)
  have kk := k _ ok10
  unfold fitsB at kk
  rw [e, Bool.true_and] at kk
  refine ifB_mk (fun e1 => ?_) (fun e1 => by rw [e1] at kk; exact kk)
  have hA := e1
  rw [e1, Bool.true_and] at kk
  have c15 := (o10.2 _ (by have := o5.1; omega)).trans ((o5.2 _ (by omega)).trans e2)
  have a15 := (o10.2 _ (by have := o5.1; omega)).trans e5
  refine ldR c15 rfl ?_
  simp only [asInt_int]
  refine ldR a15 rfl ?_
  simp only [asInt_int]
  have : decide (a.o < 2) = (a.o == 0 || a.o == 1) := by
    unfold rightA at hA
    simp only [Bool.or_eq_true, Bool.and_eq_true, beq_iff_eq] at hA
    rcases hA with h2 | ⟨h0 | h1 | h3, _⟩
    · rw [h2]; rfl
    · rw [h0]; rfl
    · rw [h1]; rfl
    · rw [h3]; rfl
  rw [this]
  exact kk
theorem eqv_c3 (t : TypeId) (ht : t = 57 ∨ t = 59) (a0 a1 a2 : Int) : eqv Try.prog 10000 t (.agg #[.int .i64 a0, .int .u32 a1, .int .u32 a2]) (.agg #[.int .i64 0, .int .u32 0, .int .u32 0]) = some ((a0 == 0) && ((a1 == 0) && ((a2 == 0) && true))) := by
  rcases ht with rfl | rfl <;> kernel_rfl
theorem guard_c3 (t : TypeId) (ht : t = 57 ∨ t = 59) : Try.prog.eqGuardType Try.prog.depth t = false := by
  rcases ht with rfl | rfl <;> kernel_rfl
theorem eqvH_c3 {t : TypeId} (ht : t = 57 ∨ t = 59) {c : C3} {K : Bool → Prop} (k : K c.is0) : eqvH Try.prog t (.agg c.cells.toArray) (.agg #[.int .i64 0, .int .u32 0, .int .u32 0]) K := by
  unfold eqvH
  rw [guard_c3 t ht, if_neg (by simp)]
  show (match eqv Try.prog 10000 t (.agg c.cells.toArray) (.agg #[.int .i64 0, .int .u32 0, .int .u32 0]) with | some b => K b | none => False)
  rw [eqv_c3 t ht]
  unfold C3.is0 at k
  simpa using k
end Go.Proofs.Ytgladmaagpcffaa
