/- Code, walked over heaps: definitions. -/
import Derived.Test.YtgladmaagpcffaaVa
namespace Go.Proofs.Ytgladmaagpcffaa

def upd (ρ : Env) (d : Nat) (v : Value) : Env := fun j => cond (Nat.beq j d) v (ρ j)
def putE (ρ : Env) (d : Option Nat) (v : Value) : Env := match d with | some d => upd ρ d v | none => ρ
def evo (ρ : Env) : Operand → Value
  | .tmp j => ρ j
  | .const v => v
  | .global g => .pointer (some ⟨g, 0, none⟩)
  | .func f => .func (.func f) #[] #[]

/-- A guard's slot: a bool, or none (the operation that fills it was passed over). -/
def guardV (v : Value) (N : Prop) (F : Bool → Prop) : Prop := match v with | .bool b => F b | _ => N

def vguard (ops : Array Oper) (ρ : Env) (g : Option (Nat × Bool)) (yes no : Env → Prop) : Prop :=
  match g with
  | none => yes ρ
  | some (j, want) => match (ops[j]?).bind (·.dst) with
    | none => no ρ
    | some d => guardV (ρ d) (no ρ) fun b => ifB b (cond want (yes (upd ρ d (.bool true))) (no (upd ρ d (.bool true)))) (cond want (no (upd ρ d (.bool false))) (yes (upd ρ d (.bool false))))

/-- What an operation answers, its form known by its type. -/
def tyO (P : Program) (o : Oper) (v : Value) (K : Value → Prop) : Prop :=
  match o.op with
  | .alloc _ | .store .. => K v
  | _ => typedV P o.type v K
def vlist (P : Program) (ops : Array Oper) : List Oper → Env → Heap → (Env → Heap → Prop) → Prop
  | [], ρ, h, K => K ρ h
  | o :: rest, ρ, h, K => vguard ops ρ o.guard
      (fun ρ => vop P (evo ρ) o h fun v h' => tyO P o v fun v => vlist P ops rest (putE ρ o.dst v) h' K)
      (fun ρ => vlist P ops rest (putE ρ o.dst undefV) h K)

/-! ### A region that draws its order -/
def isInt (P : Program) (t : TypeId) : Bool := match und P t with | .int _ => true | _ => false
def plainT (P : Program) (t : TypeId) : Bool := match und P t with | .int _ | .bool | .string => true | _ => false
/-- Operations that read, or compute, alone. -/
def isRead (P : Program) (o : Oper) : Bool :=
  match o.op with
  | .move _ | .assign _ | .pick .. | .load .. | .nilCheck _ | .makeFunc .. | .fieldAddr .. | .field .. | .indexAddr .. | .index .. | .extract .. | .slice .. => true
  | .binOp op xt _ y _ => (match und P xt with
    | .int _ | .bool => true
    | .string => (match op with | .eql | .neq | .add => true | _ => false)
    | .pointer _ => (match op with | .eql | .neq => nilP y | _ => false)
    | .slice _ => (match op with | .eql | .neq => nilS y | _ => false)
    | .func _ _ _ => (match op with | .eql | .neq => nilF y | _ => false)
    | .struct _ | .array _ _ => true
    | _ => false)
  | .unOp op xt _ => (match op, und P xt with | .not, .bool => true | .neg, .int _ => true | _, _ => false)
  | .convert s d _ => (match und P s, und P d with | .int _, .int _ => true | .string, .string => true | _, _ => false)
  | .build .. => true
  | .call { callee := .builtin .len, argTypes, args } => (match argTypes[0]?, args.toList with
    | some t, [_] => (match und P t with | .slice _ | .string | .array _ _ => true | _ => false)
    | _, _ => false)
  | _ => false

/-- Does e wait for i, at some remove? -/
def waitsB (ops : Array Oper) : Nat → Nat → Nat → Bool
  | 0, _, _ => false
  | n + 1, e, i => match ops[e]? with
    | none => false
    | some o => o.after.any fun ed => Region.binds .any ed && (ed.on == i || waitsB ops n ed.on i)

/-- Whether one of these waits for i: each operation looked at once. -/
def predsOf (o : Oper) : List Nat := o.after.toList.filterMap fun ed => match Region.binds .any ed with | true => some ed.on | false => none
def reachB (ops : Array Oper) (i : Nat) : Nat → List Nat → Nat → Bool
  | 0, _, _ => false
  | _ + 1, [], _ => false
  | n + 1, e :: st, vis => match Nat.testBit vis e with
    | true => reachB ops i n st vis
    | false => match ops[e]? with
      | none => reachB ops i n st vis
      | some o => match (predsOf o).any (Nat.beq i) with
        | true => true
        | false => reachB ops i n (predsOf o ++ st) (Nat.lor vis (Nat.shiftLeft 1 e))
def waitsF (ops : Array Oper) (e i : Nat) : Bool := reachB ops i ((ops.size + 2) * (ops.size + 2)) [e] 0

abbrev Held := List (Nat × List (Addr × Value))
def holdsL (h : Heap) : List (Addr × Value) → Prop → Prop
  | [], X => X
  | (a, u) :: L, X => cellAt h a = some u ∧ holdsL h L X
def heldOK (ops : Array Oper) (e : Nat) (h : Heap) : Held → Prop → Prop
  | [], X => X
  | (i, L) :: r, X => match waitsF ops e i with | true => heldOK ops e h r X | false => holdsL h L (heldOK ops e h r X)

def ldNL (h : Heap) (a : Addr) (i : Nat) : Nat → List Value → List (Addr × Value) → (List Value → List (Addr × Value) → Prop) → Prop
  | 0, acc, L, K => K acc.reverse L.reverse
  | n + 1, acc, L, K => ldH h (a.add i) fun v => ldNL h a (i + 1) n (v :: acc) ((a.add i, v) :: L) K

/-- A read: its value, and the cells that it was read from. -/
def vopR (P : Program) (ρ : Operand → Value) (o : Oper) (h : Heap) (F : Value → List (Addr × Value) → Prop) : Prop :=
  match o.op with
  | .load t x => asPtr (ρ x) fun a => if there P t then
      (if aggT P t then ldNL h a 0 (siz P t) [] [] (fun cs L => F (.agg cs.toArray) L) else ldH h a fun v => F v [(a, v)]) else False
  | _ => vop P ρ o h fun v _ => F v []

def pickRead (P : Program) (ops : Array Oper) (listed : Array Bool) : Option Nat :=
  (Region.ready .any ops listed).find? fun i => (match ops[i]? with | some o => isRead P o | none => false) && Region.free .any ops listed i

def AllL (l : List Nat) (F : Nat → Prop) : Prop :=
  match l with
  | [] => True
  | [i] => F i
  | i :: j :: l => F i ∧ AllL (j :: l) F

def vdraw (P : Program) (ops : Array Oper) : Nat → Array Bool → Held → Env → Heap → (Env → Heap → Prop) → Prop
  | 0, listed, _, ρ, h, K => match Region.ready .any ops listed with | [] => K ρ h | _ => False
  | n + 1, listed, held, ρ, h, K =>
    match pickRead P ops listed with
    | some i => (match ops[i]? with
      | none => False
      | some o => vguard ops ρ o.guard
        (fun ρ => vopR P (evo ρ) o h fun v L => tyO P o v fun v => vdraw P ops n (listed.setIfInBounds i true) (match L with | [] => held | _ => (i, L) :: held) (putE ρ o.dst v) h K)
        (fun ρ => vdraw P ops n (listed.setIfInBounds i true) held (putE ρ o.dst undefV) h K))
    | none => (match Region.ready .any ops listed with
      | [] => K ρ h
      | rs => AllL rs fun e => (match ops[e]? with
        | none => False
        | some o => vguard ops ρ o.guard
          (fun ρ => vop P (evo ρ) o h fun v h' => tyO P o v fun v => heldOK ops e h' held (vdraw P ops n (listed.setIfInBounds e true) held (putE ρ o.dst v) h' K))
          (fun ρ => heldOK ops e h held (vdraw P ops n (listed.setIfInBounds e true) held (putE ρ o.dst undefV) h K))))

/-! ### Code -/
def dstsOf (ops : Array Oper) : List Nat := ops.toList.filterMap (·.dst)
/-- Does an operation assign: a variable, or (a move to a slot ahead of its own) a loop's own counter? -/
def isAsg (o : Oper) : Bool := match o.op, o.dst with
  | .assign _, _ => true
  | .move (.tmp e), some d => Nat.blt d e
  | _, _ => false
def asgOf (ops : Array Oper) : List Nat := ops.toList.filterMap fun o => match isAsg o with | true => o.dst | false => none
def picksOf (ops : Array Oper) : List Nat := ops.toList.filterMap fun o => match o.op with | .pick .. => o.dst | _ => none
def insN (n : Nat) : List Nat → List Nat
  | [] => [n]
  | m :: l => if n < m then n :: m :: l else if n = m then m :: l else m :: insN n l
def unionN (a b : List Nat) : List Nat := a.foldr insN b
/-- The slots that code writes. -/
def dsts : Code → List Nat
  | .region _ ops _ => unionN (dstsOf ops) []
  | .seq a b => unionN (dsts a) (dsts b)
  | .cond c a b => unionN (match c with | .tmp d => [d] | _ => []) (unionN (dsts a) (dsts b))
  | .block _ b | .loop b | .scope b => dsts b
  | .rangeFunc .. => []
  | _ => []
/-- The variables that code assigns. -/
def asgs : Code → List Nat
  | .region _ ops _ => unionN (asgOf ops) []
  | .seq a b | .cond _ a b => unionN (asgs a) (asgs b)
  | .block _ b | .loop b | .scope b => asgs b
  | _ => []
def picks : Code → List Nat
  | .region _ ops _ => unionN (picksOf ops) []
  | _ => []
def guarded (ops : Array Oper) : Bool := ops.any fun o => o.guard.isSome
/-- In how many ways is an exit taken? -/
def xits (id : Nat) : Code → Nat
  | .seq a b | .cond _ a b => xits id a + xits id b
  | .block _ b | .loop b | .scope b => xits id b
  | .rangeFunc _ _ _ b => xits id b
  | .exit j => if j = id then 1 else 0
  | _ => 0
/-- In how many ways does code end normally? -/
def ends : Code → Nat
  | .region _ ops _ => if guarded ops then 2 else 1
  | .seq a b => if ends a = 0 then 0 else ends b
  | .cond _ a b => ends a + ends b
  | .block id b => ends b + xits id b
  | .loop _ | .exit _ | .ret | .goto _ | .refuse _ => 0
  | .scope b => ends b
  | _ => 1
def tiny : Code → Bool
  | .skip | .exit _ | .ret => true
  | .seq a b => tiny a && tiny b
  | .region _ ops _ => ops.size ≤ 2
  | _ => false

def thenQ (K : Env → Heap → Prop) (Q : Exit → Env → Heap → Prop) : Exit → Env → Heap → Prop
  | .normal, ρ, h => K ρ h
  | e, ρ, h => Q e ρ h
def blockQ (id : Nat) (Q : Exit → Env → Heap → Prop) : Exit → Env → Heap → Prop
  | .exit j, ρ, h => if j = id then Q .normal ρ h else Q (.exit j) ρ h
  | e, ρ, h => Q e ρ h

def AllV : Nat → (List Value → Prop) → Prop
  | 0, F => F []
  | n + 1, F => ∀ v, AllV n fun vs => F (v :: vs)
def lookE (vars : List Nat) (vs : List Value) (j : Nat) (d : Value) : Value :=
  match vars, vs with
  | x :: xs, v :: vs => cond (Nat.beq j x) v (lookE xs vs j d)
  | _, _ => d
def memN (j : Nat) : List Nat → Bool
  | [] => false
  | x :: xs => cond (Nat.beq j x) true (memN j xs)
/-- The slots of vars hold vs, the other ones of ws whatever g says. -/
def mergeE (ρ : Env) (ws vars : List Nat) (vs : List Value) (g : Env) : Env := fun j => lookE vars vs j (cond (memN j ws) (g j) (ρ j))

def exI (F : (List Value → Heap → Prop) → Prop) : Prop := ∃ I, F I
def exM (F : (List Value → Heap → Nat) → Prop) : Prop := ∃ μ, F μ
def joinH (n : Nat) (A : (List Value → Heap → Prop) → Prop) (B : List Value → Env → Heap → Prop) : Prop :=
  exI fun J => A J ∧ AllV n fun vs => ∀ (g : Env) (h : Heap), J vs h → B vs g h
def loopH (n : Nat) (vs0 : List Value) (h0 : Heap) (B : (List Value → Heap → Prop) → (List Value → Heap → Nat) → List Value → Env → Heap → Prop) : Prop :=
  exI fun I => exM fun μ => I vs0 h0 ∧ AllV n fun vs => ∀ (g : Env) (h : Heap), I vs h → B I μ vs g h

def setCond (ρ : Env) (c : Operand) (b : Bool) : Env := match c with | .tmp d => upd ρ d (.bool b) | _ => ρ




/-! ### A range over a function -/
/-- What an iterator keeps: all that lies neither among its own blocks (from N on, below M) nor is yet to come. -/
def Keep (N M : Nat) (h1 h2 : Heap) : Prop := h1.size ≤ h2.size ∧ ∀ b, b < h1.size → (b < N ∨ M ≤ b) → h2[b]? = h1[b]?
/-- What a round keeps: the iterator's own blocks. -/
def KeepMid (N M : Nat) (h1 h2 : Heap) : Prop := h1.size ≤ h2.size ∧ ∀ b, N ≤ b → b < M → h2[b]? = h1[b]?

/-- h' is h but for what becomes, from N on, of blocks of deferred calls. -/
def SameD (N : Nat) (h h' : Heap) : Prop := h'.size = h.size ∧ ∀ b : Nat, (b < N ∨ ∀ x, h[b]? ≠ some (.deferred x)) → h'[b]? = h[b]?
theorem SameD.mono {N M : Nat} {h h' : Heap} (H : SameD N h h') (hM : M ≤ N) : SameD M h h' := ⟨H.1, fun b hb => H.2 b (hb.imp (fun x => Nat.lt_of_lt_of_le x hM) id)⟩
/-- What a loop over an iterator says of the heap: I between two rounds (M: where the iterator's own blocks end, k: how many have come), X behind the last one, if it left. -/
structure RangeOk {ε : Type} (N : Nat) (h : Heap) (Ev : Heap → Prop) (I : Nat → Nat → Heap → Prop) (X : Nat → ε → Heap → Prop) : Prop where
  env : ∀ M k h', N ≤ M → M ≤ h'.size → I M k h' → Ev h'
  keepI : ∀ M k h1 h2, N ≤ M → M ≤ h1.size → I M k h1 → Keep N M h1 h2 → I M k h2
  keepX : ∀ M e h1 h2, N ≤ M → M ≤ h1.size → X M e h1 → Keep N M h1 h2 → X M e h2
  dI : ∀ M k h1 h2, SameD N h1 h2 → I M k h1 → I M k h2
  dX : ∀ M e h1 h2, SameD N h1 h2 → X M e h1 → X M e h2
  start : ∀ h1, h.size ≤ h1.size → (∀ b, b < N → h1[b]? = h[b]?) → I h1.size 0 h1

/-- A sequence: g, called with whatever y, hands y the n arrays xs 0, xs 1, .. one by one, till y says no. -/
def SeqH (P : Program) (g : Value) (n : Nat) (xs : Nat → Array Value) (Ev : Heap → Prop) : Prop :=
  ∀ (yf : Fn) (y1 y2 : Array Value) (h : Heap) (N : Nat) (I : Nat → Nat → Heap → Prop) (X : Nat → Unit → Heap → Prop), N ≤ h.size → Ev h → RangeOk N h Ev I X →
    (∀ M k h', k < n → N ≤ M → h.size ≤ M → M ≤ h'.size → I M k h' → callV P (.func yf y1 y2) (xs k) h' fun v h'' => KeepMid N M h' h'' ∧ ((v = .bool true ∧ I M (k + 1) h'') ∨ (v = .bool false ∧ X M () h''))) →
    callV P g #[.func yf y1 y2] h fun _ h' => ∃ M, N ≤ M ∧ h.size ≤ M ∧ M ≤ h'.size ∧ (I M n h' ∨ X M () h')

def pushL (h : Heap) : List Obj → Heap
  | [] => h
  | o :: os => pushL (h.push o) os
def allC : List Value → Prop → Prop
  | [], X => X
  | v :: vs, X => oneC v (allC vs X)
/-- The assignments to a loop's variables: the variables, and the blocks that are laid. -/
def vasg (P : Program) : List Oper → Env → Nat → (Env → List Obj → Prop) → Prop
  | [], ρ, _, F => F ρ []
  | { op := .assign x, dst := d, type := ty, guard := none, .. } :: rest, ρ, n, F => typedV P ty (evo ρ x) fun v => vasg P rest (putE ρ d v) n F
  | { op := .alloc t, dst := some d, guard := none, .. } :: { op := .store t' (.tmp d') y, dst := none, guard := none, .. } :: rest, ρ, n, F =>
    if t = t' ∧ d = d' ∧ there P t ∧ (zer P t).isSome ∧ (zcells P t).length = siz P t then
      cellsT P t (evo (upd ρ d (.pointer (some ⟨n, 0, none⟩))) y) fun cs => if cs.length = siz P t then
        allC cs (vasg P rest (upd ρ d (.pointer (some ⟨n, 0, none⟩))) (n + 1) fun ρ' os => F ρ' (.cells cs.toArray t :: os)) else False
    else False
  | _, _, _, _ => False
def opsOfC : Code → Option (List Oper)
  | .skip => some []
  | .region _ ops false => some ops.toList
  | _ => none
def setPs (ρ : Env) (vs : Array Value) : List Nat → Nat → Env
  | [], _ => ρ
  | p :: ps, i => setPs (upd ρ p (vs.getD i undefV)) vs ps (i + 1)

def fnV (v : Value) : Prop := match v with | .func (.func _) _ _ => True | _ => False
/-- The statement 'for .. := range g { .. }', N: the heap's size where it begins; B: a round; D: behind it; E: behind a round that left. -/
def rangeH0 (P : Program) (g : Value) (np : Nat) (h : Heap) (B : (Exit → Heap → Prop) → Array Value → Heap → Prop) (D : Heap → Prop) (E : Exit → Heap → Prop) : Prop :=
  ∃ (n : Nat) (xs : Nat → Array Value) (Ev : Heap → Prop) (I : Nat → Nat → Heap → Prop) (X : Nat → Exit → Heap → Prop),
    fnV g ∧ SeqH P g n xs Ev ∧ (∀ k, k < n → (xs k).size = np) ∧ Ev h ∧ RangeOk h.size h Ev I X ∧
    (∀ M k h', k < n → h.size + 2 ≤ M → M ≤ h'.size → I M k h' → B (fun e h'' => KeepMid h.size M h' h'' ∧ (match e with | .normal => I M (k + 1) h'' | e => X M e h'')) (xs k) h') ∧
    (∀ M h', h.size + 2 ≤ M → M ≤ h'.size → I M n h' → D h') ∧
    (∀ M e h', h.size + 2 ≤ M → M ≤ h'.size → X M e h' → E e h')

def eqE : Exit → Exit → Bool
  | .ret, .ret => true
  | .exit i, .exit j => Nat.beq i j
  | _, _ => false
def inE (e : Exit) : List (Exit × (Heap → Prop)) → Prop
  | [] => False
  | p :: ps => match eqE e p.1 with | true => True | false => inE e ps
def allE (X : Exit → (Heap → Prop) → Prop) : List (Exit × (Heap → Prop)) → Prop
  | [] => True
  | p :: ps => X p.1 p.2 ∧ allE X ps
/-- The same, its exits one by one. -/
def rangeH (P : Program) (g : Value) (np : Nat) (h : Heap) (B : (Exit → Heap → Prop) → Array Value → Heap → Prop) (D : Heap → Prop) (Es : List (Exit × (Heap → Prop))) : Prop :=
  ∃ (n : Nat) (xs : Nat → Array Value) (Ev : Heap → Prop) (I : Nat → Nat → Heap → Prop) (X : Nat → Exit → Heap → Prop),
    fnV g ∧ SeqH P g n xs Ev ∧ (∀ k, k < n → (xs k).size = np) ∧ Ev h ∧ RangeOk h.size h Ev I X ∧
    (∀ M k h', k < n → h.size + 2 ≤ M → M ≤ h'.size → I M k h' → B (fun e h'' => KeepMid h.size M h' h'' ∧ (match e with | .normal => I M (k + 1) h'' | e => inE e Es ∧ X M e h'')) (xs k) h') ∧
    (∀ M h', h.size + 2 ≤ M → M ≤ h'.size → I M n h' → D h') ∧
    allE (fun e F => ∀ M h', h.size + 2 ≤ M → M ≤ h'.size → X M e h' → F h') Es
theorem eqE_eq {a b : Exit} (h : eqE a b = true) : a = b := by
  cases a <;> cases b <;> simp [eqE] at h <;> first | rfl | (subst h; rfl) | exact h.elim
theorem rangeH_old {P : Program} {g : Value} {np : Nat} {h : Heap} {B : (Exit → Heap → Prop) → Array Value → Heap → Prop} {D : Heap → Prop} {E : Exit → Heap → Prop} {es : List Exit}
    (H : rangeH P g np h B D (es.map fun e => (e, E e))) : rangeH0 P g np h B D E := by
  obtain ⟨n, xs, Ev, I, X, h1, h2, h3, h4, h5, h6, h7, h8⟩ := H
  refine ⟨n, xs, Ev, I, fun M e h' => inE e (es.map fun e => (e, E e)) ∧ X M e h', h1, h2, h3, h4, ?_, h6, h7, ?_⟩
  · exact { env := h5.env, keepI := h5.keepI, keepX := fun M e a b c d e f => ⟨e.1, h5.keepX M _ a b c d e.2 f⟩, dI := h5.dI, dX := fun M e a b c d => ⟨d.1, h5.dX M _ a b c d.2⟩, start := h5.start }
  · rintro M e h' hM hM' ⟨hi, hx⟩
    clear h6
    induction es with
    | nil => exact hi.elim
    | cons e0 es ih =>
      simp only [List.map, inE, allE] at hi h8
      cases hq : eqE e e0 with
      | true => have := eqE_eq hq; subst this; exact h8.1 M h' hM hM' hx
      | false => rw [hq] at hi; exact ih h8.2 hi

def exitIn (e : Exit) : List Exit → Bool
  | [] => false
  | x :: xs => eqE e x || exitIn e xs
def joinX (a b : List Exit) : List Exit := a.foldr (fun e l => if exitIn e l then l else e :: l) b
/-- The exits of code, but for its normal end. -/
def exitsOf : Code → List Exit
  | .seq a b | .cond _ a b => joinX (exitsOf a) (exitsOf b)
  | .block id b => (exitsOf b).filter fun e => !(eqE e (.exit id))
  | .loop b | .scope b => exitsOf b
  | .rangeFunc _ _ _ b => exitsOf b
  | .exit id => [.exit id]
  | .ret => [.ret]
  | _ => []

def vc (P : Program) : Code → (Exit → Env → Heap → Prop) → Env → Heap → Prop
  | .skip, Q, ρ, h => Q .normal ρ h
  | .region _ ops false, Q, ρ, h => vlist P ops ops.toList ρ h (Q .normal)
  | .region _ ops true, Q, ρ, h => vdraw P ops ops.size (Array.replicate ops.size false) [] ρ h (Q .normal)
  | .seq a b, Q, ρ, h =>
    if ends a ≤ 1 || tiny b then vc P a (thenQ (vc P b Q) Q) ρ h else
    joinH (unionN (asgs a) (picks a)).length
      (fun J => vc P a (thenQ (fun ρ' h' => J ((unionN (asgs a) (picks a)).map ρ') h') Q) ρ h)
      (fun vs g h' => vc P b Q (mergeE ρ (dsts a) (unionN (asgs a) (picks a)) vs g) h')
  | .cond c x y, Q, ρ, h => asBool (evo ρ c) fun b => ifB b (vc P x Q (setCond ρ c true) h) (vc P y Q (setCond ρ c false) h)
  | .block id b, Q, ρ, h => vc P b (blockQ id Q) ρ h
  | .loop b, Q, ρ, h => loopH (asgs b).length ((asgs b).map ρ) h fun I μ vs g h' =>
      vc P b (thenQ (fun ρ' h'' => I ((asgs b).map ρ') h'' ∧ μ ((asgs b).map ρ') h'' < μ vs h') Q) (mergeE ρ (dsts b) (asgs b) vs g) h'
  | .rangeFunc g ps assign body, Q, ρ, h =>
    rangeH P (evo ρ g) ps.size h
      (fun K vs h' => match opsOfC assign with
        | some ops => vasg P ops (setPs ρ vs ps.toList 0) h'.size fun ρ1 os => vc P body (fun e _ h'' => K e h'') ρ1 (pushL h' os)
        | none => False)
      (fun h' => Q .normal ρ h') ((exitsOf body).map fun e => (e, fun h' => Q e ρ h'))
  | .exit id, Q, ρ, h => Q (.exit id) ρ h
  | .ret, Q, ρ, h => Q .ret ρ h
  | .label _, Q, ρ, h => Q .normal ρ h
  | .scope b, Q, ρ, h => vc P b Q ρ h
  | .goto _, _, _, _ => False
  | .refuse _, _, _, _ => False
end Go.Proofs.Ytgladmaagpcffaa
