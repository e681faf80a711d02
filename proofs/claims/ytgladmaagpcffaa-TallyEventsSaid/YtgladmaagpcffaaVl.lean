/- A region that draws its order: reads first. (2) What a read yields in other heaps. -/
import Derived.Test.YtgladmaagpcffaaVk
set_option linter.unusedSimpArgs false
set_option linter.unusedVariables false
namespace Go.Proofs.Ytgladmaagpcffaa
section
variable {P : Program} {h : Heap} {ρ : Operand → Value} {G : Value → Prop}

/-- What a read leaves, whatever heap holds the cells L. -/
def RdAs (P : Program) (ρ : Operand → Value) (o : Oper) (L : List (Addr × Value)) (v : Value) : Prop :=
  ∀ h : Heap, (∀ x ∈ L, cellAt h x.1 = some x.2) → ∀ K : Value → Heap → Prop, K v h → vop P ρ o h K

theorem intOp_read {k : IntKind} {op : BinOp} {a b : Int} (H : intOp k op a b G) : ∃ v, G v ∧ ∀ G' : Value → Prop, G' v → intOp k op a b G' := by
  cases op <;> simp only [intOp] at H ⊢ <;> first
    | exact ⟨_, H, fun _ x => x⟩
    | exact ⟨_, H.2, fun _ x => ⟨H.1, x⟩⟩
    | exact H.elim
theorem shOp_read {k : IntKind} {op : BinOp} {a b : Int} (H : shOp k op a b G) : ∃ v, G v ∧ ∀ G' : Value → Prop, G' v → shOp k op a b G' := by
  cases op <;> simp only [shOp] at H ⊢ <;> first
    | exact ⟨_, H.2, fun _ x => ⟨H.1, x⟩⟩
    | exact H.elim
theorem eqvH_read {t : TypeId} {x y : Value} {F : Bool → Prop} (H : eqvH P t x y F) : ∃ b, F b ∧ ∀ F' : Bool → Prop, F' b → eqvH P t x y F' := by
  unfold eqvH at *
  split at H
  · exact H.elim
  · rename_i hg
    obtain ⟨a, rfl, H⟩ := asAgg_out H
    split at H
    · rename_i b hb
      exact ⟨b, H, fun F' x => by simp only [hg, asAgg, hb]; simpa using x⟩
    · exact H.elim
theorem bound_read {v : Option Value} {d m : Nat} {F : Nat → Prop} (H : boundH none v d m F) : ∃ n, F n ∧ ∀ F' : Nat → Prop, F' n → boundH none v d m F' := by
  rcases boundH_out H with ⟨rfl, H1⟩ | ⟨k, i, rfl, h0, h1, H1⟩
  · exact ⟨d, H1, fun _ x => x⟩
  · exact ⟨_, H1, fun _ x => ⟨h0, h1, x⟩⟩
theorem vslice_read {t : TypeId} {x : Value} {lo hi mx : Option Value} (H : vslice P t x lo hi mx G) : ∃ v, G v ∧ ∀ G' : Value → Prop, G' v → vslice P t x lo hi mx G' := by
  unfold vslice at *
  split at H
  · split at H
    · exact H.elim
    · rename_i hm
      obtain ⟨s, rfl, H1⟩ := asStr_out H
      obtain ⟨a, H2, f1⟩ := bound_read H1
      obtain ⟨b, H3, f2⟩ := bound_read H2
      exact ⟨_, H3, fun G' x => by rw [if_neg hm]; simp only [asStr]; apply f1; apply f2; exact x⟩
  · split at H
    · rename_i ht
      obtain ⟨a, len, cap, rfl, H1⟩ := asSlice_out H
      obtain ⟨m, H2, f1⟩ := bound_read H1
      obtain ⟨b, H3, f2⟩ := bound_read H2
      obtain ⟨c, H4, f3⟩ := bound_read H3
      exact ⟨_, H4, fun G' x => by simp only [ht, if_true, asSlice, asPtr]; apply f1; apply f2; apply f3; exact x⟩
    · exact H.elim
  · split at H
    · rename_i ht
      obtain ⟨a, rfl, H1⟩ := asPtr_out H
      obtain ⟨m, H2, f1⟩ := bound_read H1
      obtain ⟨b, H3, f2⟩ := bound_read H2
      obtain ⟨c, H4, f3⟩ := bound_read H3
      exact ⟨_, H4, fun G' x => by simp only [ht, if_true, asSlice, asPtr]; apply f1; apply f2; apply f3; exact x⟩
    · exact H.elim
  · exact H.elim
theorem cellsT_read {t : TypeId} {v : Value} {F : List Value → Prop} (H : cellsT P t v F) : F v.cells.toList ∧ ∀ F' : List Value → Prop, F' v.cells.toList → cellsT P t v F' := by
  refine ⟨cellsT_out H, fun F' x => ?_⟩
  unfold cellsT at *
  split at H
  · rename_i ht
    simp only [ht, if_true]; exact (aggC_out H).2 _ x
  · rename_i ht
    simp only [ht]
    have e := (oneC_cells H).1
    rw [e] at x
    exact oneC_mono (fun _ => by simpa using x) H
theorem fillH_read {place : Nat → Option (Nat × TypeId)} (parts : List (Nat × Value)) : ∀ (cells : List Value) (F : List Value → Prop), fillH P place cells parts F →
    ∃ cs, F cs ∧ ∀ F' : List Value → Prop, F' cs → fillH P place cells parts F' := by
  induction parts with
  | nil => intro cells F H; exact ⟨cells, H, fun _ x => x⟩
  | cons p rest ih =>
    obtain ⟨i, v⟩ := p
    intro cells F H
    unfold fillH at H
    split at H
    · exact H.elim
    · rename_i off t hp1
      obtain ⟨H, f1⟩ := cellsT_read H
      split at H
      · rename_i hs
        obtain ⟨cs, h1, h2⟩ := ih _ _ H
        refine ⟨cs, h1, fun F' x => ?_⟩
        unfold fillH
        simp only [hp1]
        exact f1 _ (by rw [if_pos hs]; exact h2 _ x)
      · exact H.elim

theorem vbin_read {op : BinOp} {xt yt : TypeId} {x y : Operand} {o : Oper} (hr : isRead P { o with op := .binOp op xt x y yt } = true) (H : vbin P op xt yt x y ρ o h (fun v _ => G v)) :
    ∃ v, G v ∧ ∀ (h' : Heap) (K' : Value → Heap → Prop), K' v h' → vbin P op xt yt x y ρ o h' K' := by
  unfold isRead at hr
  simp only at hr
  unfold vbin at *
  cases hu : und P xt with
  | int k =>
    rw [hu] at H hr
    simp only at H ⊢
    split at H
    · split at H
      · obtain ⟨a, ha, H⟩ := asInt_out H
        obtain ⟨b, hb, H⟩ := asInt_out H
        obtain ⟨v, H, f⟩ := shOp_read H
        exact ⟨v, H, fun h' K' x => by simp only [ha, hb, asInt, if_true]; exact f (fun v => K' v h') x⟩
      · exact H.elim
    · split at H
      · obtain ⟨a, ha, H⟩ := asInt_out H
        obtain ⟨b, hb, H⟩ := asInt_out H
        obtain ⟨v, H, f⟩ := shOp_read H
        exact ⟨v, H, fun h' K' x => by simp only [ha, hb, asInt, if_true]; exact f (fun v => K' v h') x⟩
      · exact H.elim
    · obtain ⟨a, ha, H⟩ := asInt_out H
      obtain ⟨b, hb, H⟩ := asInt_out H
      obtain ⟨v, H, f⟩ := intOp_read H
      exact ⟨v, H, fun h' K' x => by simp only [ha, hb, asInt, if_true]; exact f (fun v => K' v h') x⟩
  | bool =>
    rw [hu] at H hr
    simp only at H ⊢
    split at H
    · obtain ⟨a, ha, H⟩ := asBool_out H
      obtain ⟨b, hb, H⟩ := asBool_out H
      exact ⟨_, H, fun h' K' x => by simp only [ha, hb, asBool]; exact x⟩
    · obtain ⟨a, ha, H⟩ := asBool_out H
      obtain ⟨b, hb, H⟩ := asBool_out H
      exact ⟨_, H, fun h' K' x => by simp only [ha, hb, asBool]; exact x⟩
    · exact H.elim
  | string =>
    rw [hu] at H hr
    simp only at H hr ⊢
    split at H
    · obtain ⟨a, ha, H⟩ := asStr_out H
      obtain ⟨b, hb, H⟩ := asStr_out H
      exact ⟨_, H, fun h' K' x => by simp only [ha, hb, asStr]; exact x⟩
    · obtain ⟨a, ha, H⟩ := asStr_out H
      obtain ⟨b, hb, H⟩ := asStr_out H
      exact ⟨_, H, fun h' K' x => by simp only [ha, hb, asStr]; exact x⟩
    · obtain ⟨a, ha, H⟩ := asStr_out H
      obtain ⟨b, hb, H⟩ := asStr_out H
      exact ⟨_, H.2, fun h' K' x => by simp only [ha, hb, asStr]; exact ⟨H.1, x⟩⟩
    · split at hr <;> simp_all
  | pointer e =>
    rw [hu] at H hr
    simp only at H hr ⊢
    split at H
    · obtain ⟨a, ha, H⟩ := asPtrO_out H
      exact ⟨_, H, fun h' K' x => by simp only [ha, asPtrO]; exact x⟩
    · obtain ⟨a, ha, H⟩ := asPtrO_out H
      exact ⟨_, H, fun h' K' x => by simp only [ha, asPtrO]; exact x⟩
    · simp_all
    · simp_all
    · split at hr <;> simp_all
  | slice e =>
    rw [hu] at H hr
    simp only at H hr ⊢
    split at H
    · obtain ⟨a, l, c, ha, H⟩ := asSlice_out H
      exact ⟨_, H, fun h' K' x => by simp only [ha, asSlice]; exact x⟩
    · obtain ⟨a, l, c, ha, H⟩ := asSlice_out H
      exact ⟨_, H, fun h' K' x => by simp only [ha, asSlice]; exact x⟩
    · split at hr <;> simp_all
  | func e1 e2 e3 =>
    rw [hu] at H hr
    simp only at H hr ⊢
    split at H
    · rcases asFnNil_out H with ⟨ha, H⟩ | ⟨f, a, b, ha, H⟩
      · exact ⟨_, H, fun h' K' x => by simp only [ha, asFnNil]; exact x⟩
      · exact ⟨_, H, fun h' K' x => by simp only [ha, asFnNil]; exact x⟩
    · rcases asFnNil_out H with ⟨ha, H⟩ | ⟨f, a, b, ha, H⟩
      · exact ⟨_, H, fun h' K' x => by simp only [ha, asFnNil]; exact x⟩
      · exact ⟨_, H, fun h' K' x => by simp only [ha, asFnNil]; exact x⟩
    · split at hr <;> simp_all
  | struct fs =>
    rw [hu] at H hr
    simp only at H hr ⊢
    split at H
    · obtain ⟨b, H, f⟩ := eqvH_read H
      exact ⟨_, H, fun h' K' x => f (fun b => K' (.bool b) h') x⟩
    · obtain ⟨b, H, f⟩ := eqvH_read H
      exact ⟨_, H, fun h' K' x => f (fun b => K' (.bool (!b)) h') x⟩
    · exact H.elim
  | array n e =>
    rw [hu] at H hr
    simp only at H hr ⊢
    split at H
    · obtain ⟨b, H, f⟩ := eqvH_read H
      exact ⟨_, H, fun h' K' x => f (fun b => K' (.bool b) h') x⟩
    · obtain ⟨b, H, f⟩ := eqvH_read H
      exact ⟨_, H, fun h' K' x => f (fun b => K' (.bool (!b)) h') x⟩
    · exact H.elim
  | _ => rw [hu] at hr; simp at hr

theorem vop_read {o : Oper} (hr : isRead P o = true) (hn : ∀ t x, o.op ≠ .load t x) (H : vop P ρ o h (fun v _ => G v)) : ∃ v, G v ∧ RdAs P ρ o [] v := by
  unfold vop at H
  unfold RdAs
  split at H
  case h_1 x hx | h_2 x hx => exact ⟨_, H, fun h' _ K' k => by unfold vop; rw [hx]; exact k⟩
  case h_3 c a b hx =>
    obtain ⟨t, ht, H⟩ := asBool_out H
    refine ⟨if t then ρ a else ρ b, ?_, fun h' _ K' k => ?_⟩
    · cases t <;> exact H
    · unfold vop; rw [hx]; simp only [ht, asBool]; cases t <;> exact k
  case h_4 t hx | h_16 t hx => unfold isRead at hr; rw [hx] at hr; simp at hr
  case h_5 t x hx | h_24 t m k x hx => unfold isRead at hr; rw [hx] at hr; simp at hr
  case h_6 t parts hx =>
    split at H
    · rename_i hz
      split at H
      · rename_i fields hu
        split at H
        · exact H.elim
        · rename_i hall
          obtain ⟨cs, H, f⟩ := fillH_read _ _ _ H
          refine ⟨_, H, fun h' _ K' k => ?_⟩
          unfold vop; rw [hx]; simp only [hz, if_true, hu, if_neg hall]
          exact f (fun cs => K' (.agg cs.toArray) h') k
      · rename_i n elem hu
        split at H
        · exact H.elim
        · rename_i hall
          obtain ⟨cs, H, f⟩ := fillH_read _ _ _ H
          refine ⟨_, H, fun h' _ K' k => ?_⟩
          unfold vop; rw [hx]; simp only [hz, if_true, hu, if_neg hall]
          exact f (fun cs => K' (.agg cs.toArray) h') k
      · exact H.elim
    · exact H.elim
  case h_7 t len parts hx => unfold isRead at hr; rw [hx] at hr; simp at hr
  case h_8 t x hx => exact absurd hx (hn _ _)
  case h_9 t x y hx => unfold isRead at hr; rw [hx] at hr; simp at hr
  case h_10 x hx =>
    have e : ∀ X Y : Prop, nilC (ρ x) X → (Y → nilC (ρ x) Y) ∧ X := by
      intro X Y q; unfold nilC at *; split at q <;> first | exact q.elim | exact ⟨fun y => y, q⟩
    exact ⟨_, (e _ True H).2, fun h' _ K' k => by unfold vop; rw [hx]; exact (e _ _ H).1 k⟩
  case h_11 op xt x y yt hx =>
    have hr' : isRead P { o with op := .binOp op xt x y yt } = true := by rw [← hx]; exact hr
    obtain ⟨v, H, f⟩ := vbin_read hr' H
    exact ⟨v, H, fun h' _ K' k => by unfold vop; rw [hx]; exact f h' K' k⟩
  case h_12 op xt x hx =>
    split at H
    · rename_i hu
      obtain ⟨b, hb, H⟩ := asBool_out H
      exact ⟨_, H, fun h' _ K' k => by unfold vop; rw [hx]; simp only [hu, hb, asBool]; exact k⟩
    · rename_i hu
      obtain ⟨b, hb, H⟩ := asInt_out H
      exact ⟨_, H, fun h' _ K' k => by unfold vop; rw [hx]; simp only [hu, hb, asInt, if_true]; exact k⟩
    · rename_i n1 n2
      unfold isRead at hr; rw [hx] at hr; simp only at hr
      exact absurd hr (by simp)
  case h_13 s d x hx =>
    split at H
    · rename_i hu1 hu2
      obtain ⟨b, hb, H⟩ := asInt_out H
      exact ⟨_, H, fun h' _ K' k => by unfold vop; rw [hx]; simp only [hu1, hu2, hb, asInt, if_true]; exact k⟩
    · rename_i hu1 hu2
      obtain ⟨b, hb, H⟩ := asStr_out H
      exact ⟨_, H, fun h' _ K' k => by unfold vop; rw [hx]; simp only [hu1, hu2, hb, asStr]; exact k⟩
    · rename_i n1 n2
      unfold isRead at hr; rw [hx] at hr; simp only at hr
      exact absurd hr (by simp)
  case h_14 t x hx => unfold isRead at hr; rw [hx] at hr; simp at hr
  case h_15 fn first captured hx => exact ⟨_, H, fun h' _ K' k => by unfold vop; rw [hx]; exact k⟩
  case h_17 t l c hx => unfold isRead at hr; rw [hx] at hr; simp at hr
  case h_18 t x lo hi mx hx =>
    split at H
    · exact H.elim
    · rename_i hm
      obtain ⟨v, H, f⟩ := vslice_read H
      exact ⟨v, H, fun h' _ K' k => by unfold vop; rw [hx]; simp only [hm]; exact f (fun v => K' v h') k⟩
  case h_19 t x f hx =>
    split at H
    · rename_i fields hu
      split at H
      · rename_i fd hf
        split at H
        · rename_i hh
          obtain ⟨a, ha, H⟩ := asPtr_out H
          exact ⟨_, H, fun h' _ K' k => by unfold vop; rw [hx]; simp only [hu, hf, if_pos hh, ha, asPtr]; exact k⟩
        · exact H.elim
      · exact H.elim
    · exact H.elim
  case h_20 t x f hx =>
    split at H
    · rename_i fields hu
      split at H
      · rename_i fd hf
        obtain ⟨cs, ha, H⟩ := asAgg_out H
        unfold partH at H
        split at H
        · rename_i v hv
          split at H
          · rename_i hth
            exact ⟨_, H, fun h' _ K' k => by unfold vop; rw [hx]; simp only [hu, hf, ha, asAgg, partH, hv, if_pos hth]; exact k⟩
          · exact H.elim
        · exact H.elim
      · exact H.elim
    · exact H.elim
  case h_21 t x i hx =>
    split at H
    · rename_i elem hu
      obtain ⟨a, len, cap, ha, H⟩ := asSlice_out H
      obtain ⟨k, n, hi, h0, h1, H⟩ := asI_out H
      obtain ⟨ad, had, H⟩ := asPtr_out H
      cases had
      split at H
      · rename_i hth
        exact ⟨_, H, fun h' _ K' k => by unfold vop; rw [hx]; simp only [hu, ha, asSlice, hi, asI, asPtr, if_pos hth]; exact ⟨h0, h1, k⟩⟩
      · exact H.elim
    · rename_i len elem hu
      obtain ⟨a, ha, H⟩ := asPtr_out H
      obtain ⟨k, n, hi, h0, h1, H⟩ := asI_out H
      split at H
      · rename_i hth
        exact ⟨_, H, fun h' _ K' k => by unfold vop; rw [hx]; simp only [hu, ha, asPtr, hi, asI, if_pos hth]; exact ⟨h0, h1, k⟩⟩
      · exact H.elim
    · exact H.elim
  case h_22 t x i hx =>
    split at H
    · rename_i hu
      obtain ⟨s, ha, H⟩ := asStr_out H
      obtain ⟨k, n, hi, h0, h1, H⟩ := asI_out H
      exact ⟨_, H, fun h' _ K' k => by unfold vop; rw [hx]; simp only [hu, ha, asStr, hi, asI]; exact ⟨h0, h1, k⟩⟩
    · rename_i len elem hu
      obtain ⟨cs, ha, H⟩ := asAgg_out H
      obtain ⟨k, n, hi, h0, h1, H⟩ := asI_out H
      unfold partH at H
      split at H
      · rename_i v hv
        split at H
        · rename_i hth
          exact ⟨_, H, fun h' _ K' k => by unfold vop; rw [hx]; simp only [hu, ha, asAgg, hi, asI, partH, hv, if_pos hth]; exact ⟨h0, h1, k⟩⟩
        · exact H.elim
      · exact H.elim
    · exact H.elim
  case h_23 t x i ok hx => unfold isRead at hr; rw [hx] at hr; simp at hr
  case h_25 x i hx =>
    obtain ⟨vs, ha, H⟩ := asTup_out H
    unfold elemH at H
    split at H
    · rename_i v hv
      exact ⟨_, H, fun h' _ K' k => by unfold vop; rw [hx]; simp only [ha, asTup, elemH, hv]; exact k⟩
    · exact H.elim
  case h_26 b args argTypes hx =>
    have hb : b = .len := by
      cases b <;> first | rfl | exact absurd hr (by unfold isRead; rw [hx]; simp)
    subst hb
    unfold isRead at hr; rw [hx] at hr; simp only at hr
    split at hr
    · rename_i t x h1 h2
      unfold vbuiltin at H
      rw [h2] at H
      simp only [List.map_cons, List.map_nil, h1] at H
      split at H
      · rename_i e hu
        obtain ⟨a, n, c, ha, H⟩ := asSlice_out H
        exact ⟨_, H, fun h' _ K' k => by unfold vop; rw [hx]; simp only [vbuiltin, h2, List.map_cons, List.map_nil, h1, hu, ha, asSlice]; exact k⟩
      · rename_i hu
        obtain ⟨a, ha, H⟩ := asStr_out H
        exact ⟨_, H, fun h' _ K' k => by unfold vop; rw [hx]; simp only [vbuiltin, h2, List.map_cons, List.map_nil, h1, hu, ha, asStr]; exact k⟩
      · rename_i e1 e2 hu; rw [hu] at hr; simp at hr
      · rename_i n e hu
        exact ⟨_, H, fun h' _ K' k => by unfold vop; rw [hx]; simp only [vbuiltin, h2, List.map_cons, List.map_nil, h1, hu]; exact k⟩
      · exact H.elim
    · exact absurd hr (by simp)
  case h_27 f args argTypes hx => unfold isRead at hr; rw [hx] at hr; simp at hr
  case h_28 =>
    exfalso
    unfold isRead at hr
    split at hr <;> rename_i hx <;> first
      | (exact absurd hr (by decide))
      | solve_by_elim
end
end Go.Proofs.Ytgladmaagpcffaa
