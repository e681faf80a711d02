/- A region that draws its order: reads first. (1) What operations look at; reads. -/
import Derived.Test.YtgladmaagpcffaaVj
set_option linter.unusedSimpArgs false
set_option linter.unusedVariables false
namespace Go.Proofs.Ytgladmaagpcffaa
section
variable {P : Program} {h : Heap} {K : Value → Heap → Prop}

/-! ### an operation looks at its operands alone -/
theorem opH_congr {ρ ρ' : Operand → Value} {o : Oper} (hp0 : plainOp o = true) (hh : ∀ x ∈ o.op.operands, ρ x = ρ' x) : opH P ρ o h K = opH P ρ' o h K := by
  unfold opH
  rw [execOp_congr o (fun cs b e => by unfold plainOp at hp0; rw [e] at hp0; simp at hp0) hh]
theorem vbin_congr {ρ ρ' : Operand → Value} {op : BinOp} {xt yt : TypeId} {x y : Operand} {o : Oper} (hx : ρ x = ρ' x) (hy : ρ y = ρ' y) (ho : opH P ρ o h K = opH P ρ' o h K) :
    vbin P op xt yt x y ρ o h K = vbin P op xt yt x y ρ' o h K := by
  unfold vbin; simp only [hx, hy, ho]
theorem list_map_congr {α β : Type} {f g : α → β} : ∀ (l : List α), (∀ x ∈ l, f x = g x) → l.map f = l.map g := fun l hh => List.map_congr_left hh
theorem vop_congr {ρ ρ' : Operand → Value} {o : Oper} (hp0 : plainOp o = true) (hh : ∀ x ∈ o.op.operands, ρ x = ρ' x) : vop P ρ o h K = vop P ρ' o h K := by
  have ho := opH_congr (P := P) (h := h) (K := K) hp0 hh
  unfold vop
  split
  case h_1 x hx | h_2 x hx | h_5 t x hx | h_8 t x hx | h_10 x hx | h_12 op xt x hx | h_13 s d x hx | h_14 t x hx | h_19 t x f hx | h_20 t x f hx | h_25 x i hx =>
    rw [hx] at hh
    have e : ρ x = ρ' x := hh x (by simp [Op.operands])
    simp only [e, ho]
  case h_3 c a b hx =>
    rw [hx] at hh
    have e1 : ρ c = ρ' c := hh c (by simp [Op.operands])
    have e2 : ρ a = ρ' a := hh a (by simp [Op.operands])
    have e3 : ρ b = ρ' b := hh b (by simp [Op.operands])
    simp only [e1, e2, e3]
  case h_4 | h_16 => rfl
  case h_6 t parts hx =>
    rw [hx] at hh
    have e : (parts.toList.map fun p => (p.1, ρ p.2)) = (parts.toList.map fun p => (p.1, ρ' p.2)) := by
      apply List.map_congr_left
      intro p hp1
      have : ρ p.2 = ρ' p.2 := hh p.2 (by simp only [Op.operands]; simp; exact ⟨p.1, by simpa using hp1⟩)
      rw [this]
    simp only [e]
  case h_7 t len parts hx =>
    rw [hx] at hh
    have e : (parts.toList.map fun p => (p.1, ρ p.2)) = (parts.toList.map fun p => (p.1, ρ' p.2)) := by
      apply List.map_congr_left
      intro p hp1
      have : ρ p.2 = ρ' p.2 := hh p.2 (by simp only [Op.operands]; simp; exact ⟨p.1, by simpa using hp1⟩)
      rw [this]
    simp only [e]
  case h_9 t x y hx =>
    rw [hx] at hh
    have e1 : ρ x = ρ' x := hh x (by simp [Op.operands])
    have e2 : ρ y = ρ' y := hh y (by simp [Op.operands])
    simp only [e1, e2]
  case h_11 op xt x y yt hx =>
    rw [hx] at hh
    have e1 : ρ x = ρ' x := hh x (by simp [Op.operands])
    have e2 : ρ y = ρ' y := hh y (by simp [Op.operands])
    exact vbin_congr e1 e2 ho
  case h_15 fn first captured hx =>
    rw [hx] at hh
    have e1 : mapV ρ first = mapV ρ' first := by unfold mapV; congr 1; apply List.map_congr_left; intro x hx1; exact hh x (by simp [Op.operands, (Array.mem_toList_iff.1 hx1)])
    have e2 : mapV ρ captured = mapV ρ' captured := by unfold mapV; congr 1; apply List.map_congr_left; intro x hx1; exact hh x (by simp [Op.operands, (Array.mem_toList_iff.1 hx1)])
    simp only [e1, e2]
  case h_17 t x y hx | h_21 t x y hx | h_22 t x y hx | h_23 t x y ok hx =>
    rw [hx] at hh
    have e1 : ρ x = ρ' x := hh x (by simp [Op.operands])
    have e2 : ρ y = ρ' y := hh y (by simp [Op.operands])
    simp only [e1, e2]
  case h_18 t x lo hi mx hx =>
    rw [hx] at hh
    have e1 : ρ x = ρ' x := hh x (by simp [Op.operands])
    have e2 : lo.map ρ = lo.map ρ' := by cases lo with | none => rfl | some l => simp only [Option.map_some]; rw [hh l (by simp [Op.operands])]
    have e3 : hi.map ρ = hi.map ρ' := by cases hi with | none => rfl | some l => simp only [Option.map_some]; rw [hh l (by simp [Op.operands])]
    have e4 : mx.map ρ = mx.map ρ' := by cases mx with | none => rfl | some l => simp only [Option.map_some]; rw [hh l (by simp [Op.operands])]
    simp only [e1, e2, e3, e4]
  case h_24 t m k x hx =>
    rw [hx] at hh
    have e1 : ρ m = ρ' m := hh m (by simp [Op.operands])
    have e2 : ρ k = ρ' k := hh k (by simp [Op.operands])
    have e3 : ρ x = ρ' x := hh x (by simp [Op.operands])
    simp only [e1, e2, e3]
  case h_26 b args argTypes hx =>
    rw [hx] at hh
    have e1 : args.toList.map ρ = args.toList.map ρ' := by apply List.map_congr_left; intro x hx1; exact hh x (by simp [Op.operands, Call.operands, (Array.mem_toList_iff.1 hx1)])
    unfold vbuiltin
    simp only [e1, ho]
  case h_27 f args argTypes hx =>
    rw [hx] at hh
    have e1 : mapV ρ args = mapV ρ' args := by unfold mapV; congr 1; apply List.map_congr_left; intro x hx1; exact hh x (by simp [Op.operands, Call.operands, (Array.mem_toList_iff.1 hx1)])
    have e2 : ρ f = ρ' f := hh f (by simp [Op.operands, Call.operands])
    simp only [e1, e2]
  case h_28 => exact ho

theorem evo_put {ρ : Env} {d : Option Nat} {v : Value} {x : Operand} (hx : ∀ j, d = some j → x ≠ .tmp j) : evo (putE ρ d v) x = evo ρ x := by
  cases d with
  | none => rfl
  | some d => cases x with
    | tmp j => exact upd_ne _ _ (fun e => hx d rfl (by rw [e]))
    | _ => rfl
theorem vop_put {ρ : Env} {ops : Array Oper} {o : Oper} {d : Option Nat} {v : Value} (hp0 : plainOp o = true) (hd : ∀ j, d = some j → j ∉ o.looksAt ops) :
    vop P (evo (putE ρ d v)) o h K = vop P (evo ρ) o h K := by
  refine vop_congr hp0 fun x hx => evo_put fun j hj e => hd j hj ?_
  subst e
  unfold Oper.looksAt
  exact List.mem_append.2 (.inl (List.mem_filterMap.2 ⟨_, Array.mem_toList_iff.2 hx, rfl⟩))
theorem wantE_put {ρ : Env} {ops : Array Oper} {o : Oper} {d : Option Nat} {v : Value} (hd : ∀ j, d = some j → j ∉ o.looksAt ops) :
    wantE ops (putE ρ d v) o.guard = wantE ops ρ o.guard := by
  unfold wantE
  cases hg : o.guard with
  | none => rfl
  | some g =>
    obtain ⟨j, want⟩ := g
    have e : yieldE ops (putE ρ d v) j = yieldE ops ρ j := by
      unfold yieldE
      cases hs : (ops[j]?).bind (·.dst) with
      | none => rfl
      | some s =>
        simp only
        cases d with
        | none => rfl
        | some d =>
          have : s ≠ d := by
            intro e; subst e
            refine hd s rfl ?_
            unfold Oper.looksAt
            rw [hg]; simp only [hs]; simp
          rw [show putE ρ (some d) v s = ρ s from upd_ne _ _ this]
    simp only [e]
theorem putE_comm (ρ : Env) {x y : Option Nat} (v u : Value) (hne : ∀ d, x = some d → y ≠ some d) : putE (putE ρ x v) y u = putE (putE ρ y u) x v := by
  cases x with
  | none => rfl
  | some x => cases y with
    | none => rfl
    | some y =>
      have hxy : x ≠ y := fun e => hne x rfl (by rw [e])
      funext j
      simp only [putE]
      by_cases e1 : j = x
      · subst e1; rw [upd_ne _ _ hxy, upd_same, upd_same]
      · by_cases e2 : j = y
        · subst e2; rw [upd_same, upd_ne _ _ e1, upd_same]
        · rw [upd_ne _ _ e2, upd_ne _ _ e1, upd_ne _ _ e1, upd_ne _ _ e2]
end
end Go.Proofs.Ytgladmaagpcffaa
