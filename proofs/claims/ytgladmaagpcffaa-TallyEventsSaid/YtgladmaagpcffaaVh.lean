/- Each operation of the calculus is the model's (6): an operation, whole. -/
import Derived.Test.YtgladmaagpcffaaVg
set_option linter.unusedSimpArgs false
set_option linter.unusedVariables false
namespace Go.Proofs.Ytgladmaagpcffaa
section
variable {P : Program} {ρ : Operand → Value} {h : Heap} {K : Value → Heap → Prop}

theorem callV_sound {o : Oper} {f : Operand} {args : Array Operand} {argTypes : Array TypeId} (ho : o.op = .call { callee := .value f, args, argTypes })
    (H : callV P (ρ f) (args.map ρ) h K) : OpS P ρ o h K := by
  intro w hw
  have e : execOp ρ o = (do let d ← Deferred.ofValue (ρ f) (args.map ρ); invoke d.target d.args) := by
    unfold execOp; rw [ho]; rfl
  rw [e]
  unfold callV at H
  split at H
  · rename_i g first captured hf
    rw [hf]
    obtain ⟨he, hcall⟩ := H
    have hr : (do let d ← Deferred.ofValue (.func (.func g) first captured) (args.map ρ); invoke d.target d.args).run P w = .ok (.enter g (first ++ args.map ρ ++ captured)) w := he _ w
    exact ⟨_, w, hr, hcall w hw⟩
  · rename_i l first captured hf
    rw [hf]
    obtain ⟨fn, tmps, assign, body, hr, hround⟩ := H w hw
    exact ⟨_, w, hr, hround⟩
  · exact H.elim

theorem extV_sound {o : Oper} {f : Operand} {args : Array Operand} {argTypes : Array TypeId} (ho : o.op = .call { callee := .value f, args, argTypes })
    (H : extV P (ρ f) (args.map ρ) h K) : OpS P ρ o h K := by
  have e : execOp ρ o = (do let d ← Deferred.ofValue (ρ f) (args.map ρ); invoke d.target d.args) := by
    unfold execOp; rw [ho]; rfl
  unfold extV at H
  split at H
  · rename_i g first captured hf
    refine OpS_of_hp ?_
    rw [e, hf]
    show hp P (callFunc g (first ++ args.map ρ ++ captured)) (nxt P K) h
    refine hp_mono ?_ H
    intro nx h' x
    cases nx <;> first | exact x | exact x.elim
  · exact H.elim

theorem vop_sound (o : Oper) (hc : ∀ v, ρ (.const v) = v) (H : vop P ρ o h K) : OpS P ρ o h K := by
  unfold vop at H
  split at H
  case h_1 x hx | h_2 x hx => exact OpS_of_hp (by unfold execOp; rw [hx]; exact H)
  case h_3 c a b hx =>
    obtain ⟨t, ht, H⟩ := asBool_out H
    refine OpS_of_hp ?_
    unfold execOp; rw [hx]
    simp only [ht, Go.asBool, hp_bind, hp_pure, nxt]
    have := ifB_out H
    cases t <;> simpa using this
  case h_4 t hx =>
    refine OpS_of_hp ?_
    unfold execOp; rw [hx]
    split at H
    · rename_i z hz
      refine (hp_v _).mpr ?_
      simp only [Instr.alloc, hp_bind, hp_zeroValue hz, newVar, newRow, newObj, hp, hp_pure]
      exact H
    · exact H.elim
  case h_5 t x hx =>
    refine OpS_of_hp ?_
    unfold execOp; rw [hx]
    have H := cellsT_out H
    refine (hp_v _).mpr ?_
    simp only [Instr.box, newVar, newRow, newObj, hp_bind, hp, hp_pure]
    simpa using H
  case h_6 t parts hx =>
    refine OpS_of_hp ?_
    unfold execOp; rw [hx]
    refine (hp_v _).mpr ?_
    split at H
    · rename_i hz
      obtain ⟨z, hz⟩ := zer_some hz
      simp only [Instr.build, hp_bind, hp_zeroValue hz, ← zcells_eq hz]
      split at H
      · rename_i fields hu
        split at H
        · exact H.elim
        · rename_i hall
          simp only [hp_underlying (und_some hu (by simp))]
          obtain ⟨cs, h1, h2⟩ := fillH_fill _ _ _ H
          have hpl : ∀ (fs : List Field), (∀ f ∈ fs, there P f.type = true) → ∀ (G : List (Nat × Nat) → Heap → Prop),
              hp P (fs.mapM fun f => do pure (f.offset, ← sizeOf f.type)) G h = G (fs.map fun f => (f.offset, siz P f.type)) h := by
            intro fs
            induction fs with
            | nil => intro _ G; rfl
            | cons f fs ih =>
              intro hf G
              simp only [List.mapM_cons, hp_bind, hp_sizeOf (hf f (by simp)), hp_pure, ih (fun g hg => hf g (by simp [hg])), List.map_cons]
          have hall2 : ∀ f ∈ fields.toList, there P f.type = true := by
            intro f hf
            have : fields.all (fun f => there P f.type) = true := by simpa using hall
            rw [Array.all_eq_true'] at this
            exact this f (by simpa using hf)
          rw [Array.mapM_eq_mapM_toList]
          simp only [map_eq_pure_bind, hp_bind, hpl fields.toList hall2, hp_pure]
          have e : (fun x : Nat => ((fields.toList.map fun f => (f.offset, siz P f.type)).toArray)[x]?) = (fun i => ((fields[i]?).map fun f => (f.offset, f.type)).map fun x => (x.1, siz P x.2)) := by
            funext i; simp [Function.comp_def]
          have ep : (parts.map fun x => (x.1, ρ x.2)).toList = parts.toList.map fun p => (p.1, ρ p.2) := by simp
          rw [e, ep, h1]
          exact h2
      · rename_i n elem hu
        split at H
        · exact H.elim
        · rename_i hth
          have hth : there P elem = true := by simpa using hth
          simp only [hp_underlying (und_some hu (by simp))]
          obtain ⟨cs, h1, h2⟩ := fillH_fill _ _ _ H
          simp only [hp_bind, hp_sizeOf hth]
          have ep : (parts.map fun x => (x.1, ρ x.2)).toList = parts.toList.map fun p => (p.1, ρ p.2) := by simp
          have e : (fun i => some (i * siz P elem, siz P elem)) = (fun i => ((fun i => some (i * siz P elem, elem)) i : Option (Nat × TypeId)).map fun x => (x.1, siz P x.2)) := by
            funext i; simp
          rw [e, ep, h1]
          exact h2
      · exact H.elim
    · exact H.elim
  case h_7 t len parts hx =>
    refine OpS_of_hp ?_
    unfold execOp; rw [hx]
    refine (hp_v _).mpr ?_
    split at H
    · rename_i elem hu
      split at H
      · rename_i hh
        obtain ⟨hth, hle, hz, hl, h0⟩ := hh
        obtain ⟨z, hz⟩ := zer_some hz
        simp only [Instr.buildSlice, hp_bind, hp_underlying (und_some hu (by simp)), hp_sizeOf hth]
        rw [if_neg (by omega)]
        obtain ⟨cs, h1, h2⟩ := fillH_fill _ _ _ H
        have ep : (parts.map fun x => (x.1, ρ x.2)).toList = parts.toList.map fun p => (p.1, ρ p.2) := by simp
        have e : (fun i => some (i * siz P elem, siz P elem)) = (fun i => ((fun i => some (i * siz P elem, elem)) i : Option (Nat × TypeId)).map fun x => (x.1, siz P x.2)) := by
          funext i; simp
        by_cases hl0 : len = 0
        · subst hl0
          simp only [Nat.zero_mul, if_true, hp_pure]
          have e0 : ∀ zero : Array Value, (Array.range 0).map (fun x => zero[x % zero.size]!) = (([] : List Value)).toArray := by intro z; simp [Array.range]
          simp only [List.replicate_zero, List.flatten_nil] at h1
          rw [hp_bind, hp_pure, e0, e, ep]
          simp only [Option.map_some] at h1 ⊢
          rw [h1]
          simp only [newRow, newObj, hp_bind, hp, hp_pure]
          exact h2
        · rw [if_neg (by intro e; rcases Nat.mul_eq_zero.1 e with e | e <;> omega)]
          simp only [hp_bind, hp_zeroValue hz, hp_pure, ← zcells_eq hz]
          have := rep_eq (zcells P elem) len (by omega)
          rw [hl] at this
          rw [this, e, ep, h1]
          simp only [newRow, newObj, hp_bind, hp, hp_pure]
          exact h2
      · exact H.elim
    · exact H.elim
  case h_8 t x hx =>
    refine OpS_of_hp ?_
    unfold execOp; rw [hx]
    refine (hp_v _).mpr ?_
    obtain ⟨a, ha, H⟩ := asPtr_out H
    split at H
    · rename_i hth
      simp only [Instr.loadAt, ha, Instr.sureAddr, hp_bind, hp_pure]
      exact hp_loadVar hth H
    · exact H.elim
  case h_9 t x y hx =>
    refine OpS_of_hp ?_
    unfold execOp; rw [hx]
    refine (hp_u _).mpr ?_
    obtain ⟨a, ha, H⟩ := asPtr_out H
    have H := cellsT_out H
    split at H
    · rename_i hth
      simp only [Instr.storeAt, ha, Instr.sureAddr, hp_bind, hp_pure]
      exact hp_storeVar hth.1 hth.2 H
    · exact H.elim
  case h_10 x hx =>
    refine OpS_of_hp ?_
    unfold execOp; rw [hx]
    unfold nilC at H
    generalize hv : ρ x = v at H ⊢
    split at H <;> first
      | exact H.elim
      | skip
    rename_i n1 n2 n3 n4
    dsimp only
    rw [hv]
    cases v with
    | pointer a => cases a with
      | none => exact absurd rfl n1
      | some a => exact H
    | nilIface => exact absurd rfl n2
    | nilFunc => exact absurd rfl n3
    | func f a b => cases f with
      | method m => exact absurd rfl (n4 _ _ _)
      | _ => exact H
    | _ => exact H
  case h_11 op xt x y yt hx => exact OpS_of_hp (vbin_sound hx hc H)
  case h_12 op xt x hx =>
    refine OpS_of_hp ?_
    split at H
    · obtain ⟨b, hb, H⟩ := asBool_out H
      unfold execOp; rw [hx]
      refine (hp_v _).mpr ?_
      rw [hb]; exact H
    · obtain ⟨b, hb, H⟩ := asInt_out H
      unfold execOp; rw [hx]
      refine (hp_v _).mpr ?_
      rw [hb]; exact H
    · exact H
  case h_13 src dst x hx =>
    refine OpS_of_hp ?_
    split at H
    · rename_i hu1 hu2
      obtain ⟨b, hb, H⟩ := asInt_out H
      unfold execOp; rw [hx]
      refine (hp_v _).mpr ?_
      simp only [convert, hp_bind, hp_underlying (und_some hu1 (by simp)), hp_underlying (und_some hu2 (by simp)), hb]
      exact H
    · rename_i hu1 hu2
      obtain ⟨b, hb, H⟩ := asStr_out H
      unfold execOp; rw [hx]
      refine (hp_v _).mpr ?_
      simp only [convert, hp_bind, hp_underlying (und_some hu1 (by simp)), hp_underlying (und_some hu2 (by simp)), hb]
      exact H
    · unfold execOp; rw [hx]
      exact (hp_v _).mpr H
  case h_14 t x hx =>
    refine OpS_of_hp ?_
    unfold execOp; rw [hx]
    refine (hp_v _).mpr ?_
    split at H
    · exact H.elim
    · exact H.elim
    · rename_i n1 n2
      have hu := und_some (P := P) (t := t) rfl n2
      simp only [Instr.makeInterface, hp_bind, hp_underlying hu]
      exact H
  case h_15 fn first captured hx =>
    refine OpS_of_hp ?_
    unfold execOp; rw [hx]
    refine (hp_v _).mpr ?_
    rw [mapV_eq, mapV_eq] at H
    exact H
  case h_16 t hx =>
    refine OpS_of_hp ?_
    unfold execOp; rw [hx]
    refine (hp_v _).mpr ?_
    exact H
  case h_17 t l c hx =>
    refine OpS_of_hp ?_
    unfold execOp; rw [hx]
    refine (hp_v _).mpr ?_
    split at H
    · rename_i elem hu
      obtain ⟨k1, l', hl, H⟩ := asI_out H
      obtain ⟨k2, c', hc', H⟩ := asI_out H
      rw [hl, hc']
      split at H
      · rename_i hh
        exact hp_makeSlice (und_some hu (by simp)) hh.1 hh.2.1 hh.2.2.1 hh.2.2.2 H
      · exact H.elim
    · exact H.elim
  case h_18 t x lo hi mx hx =>
    refine OpS_of_hp ?_
    unfold execOp; rw [hx]
    refine (hp_v _).mpr ?_
    split at H
    · exact H.elim
    · rename_i hm
      refine hp_sliceAt ?_ H
      cases mx <;> cases hi <;> simp_all
  case h_19 t x f hx =>
    refine OpS_of_hp ?_
    unfold execOp; rw [hx]
    refine (hp_v _).mpr ?_
    split at H
    · rename_i fields hu
      split at H
      · rename_i fd hf
        split at H
        · rename_i hh
          obtain ⟨a, ha, H⟩ := asPtr_out H
          simp only [Instr.fieldAt, hp_bind, hp_underlying (und_some hu (by simp)), hf, ha, Instr.sureAddr, hp_pure, fieldPlace, hp_sizeOf hh.1]
          rw [if_neg hh.2]; exact H
        · exact H.elim
      · exact H.elim
    · exact H.elim
  case h_20 t x f hx =>
    refine OpS_of_hp ?_
    unfold execOp; rw [hx]
    refine (hp_v _).mpr ?_
    split at H
    · rename_i fields hu
      split at H
      · rename_i fd hf
        obtain ⟨cs, ha, H⟩ := asAgg_out H
        unfold partH at H
        split at H
        · rename_i v hv
          split at H
          · rename_i hth
            simp only [Instr.field, hp_bind, hp_underlying (und_some hu (by simp)), hf, ha, Go.asAgg, hp_pure]
            rw [hp_part hth hv]; exact H
          · exact H.elim
        · exact H.elim
      · exact H.elim
    · exact H.elim
  case h_21 t x i hx =>
    refine OpS_of_hp ?_
    unfold execOp; rw [hx]
    refine (hp_v _).mpr ?_
    split at H
    · rename_i elem hu
      obtain ⟨a, len, cap, ha, H⟩ := asSlice_out H
      obtain ⟨k, n, hi, h0, h1, H⟩ := asI_out H
      obtain ⟨ad, had, H⟩ := asPtr_out H
      cases had
      split at H
      · rename_i hth
        simp only [Instr.indexAt, hi, asIntOf, hp_bind, hp_pure, hp_underlying (und_some hu (by simp)), ha]
        rw [if_pos ⟨h0, h1⟩]
        simp only [hp_bind, hp_sizeOf hth, hp_pure]; exact H
      · exact H.elim
    · rename_i len elem hu
      obtain ⟨a, ha, H⟩ := asPtr_out H
      obtain ⟨k, n, hi, h0, h1, H⟩ := asI_out H
      split at H
      · rename_i hth
        simp only [Instr.indexAt, hi, asIntOf, hp_bind, hp_pure, hp_underlying (und_some hu (by simp)), ha, Instr.sureAddr]
        rw [if_pos ⟨h0, h1⟩]
        simp only [hp_bind, hp_sizeOf hth, hp_pure]; exact H
      · exact H.elim
    · exact H.elim
  case h_22 t x i hx =>
    refine OpS_of_hp ?_
    unfold execOp; rw [hx]
    refine (hp_v _).mpr ?_
    split at H
    · rename_i hu
      obtain ⟨s, ha, H⟩ := asStr_out H
      obtain ⟨k, n, hi, h0, h1, H⟩ := asI_out H
      simp only [Instr.index, hi, asIntOf, hp_bind, hp_pure, hp_underlying (und_some hu (by simp)), ha]
      have hs : n.toNat < s.size := by omega
      unfold byteAt at H
      simp only [h0, if_true]
      rw [getElem?_pos s n.toNat hs] at H ⊢
      exact H
    · rename_i len elem hu
      obtain ⟨cs, ha, H⟩ := asAgg_out H
      obtain ⟨k, n, hi, h0, h1, H⟩ := asI_out H
      unfold partH at H
      split at H
      · rename_i v hv
        split at H
        · rename_i hth
          simp only [Instr.index, hi, asIntOf, hp_bind, hp_pure, hp_underlying (und_some hu (by simp)), ha]
          rw [if_pos ⟨h0, h1⟩]
          simp only [hp_bind, hp_sizeOf hth]
          rw [hp_part hth hv]; exact H
        · exact H.elim
      · exact H.elim
    · exact H.elim
  case h_23 t x i ok hx =>
    refine OpS_of_hp ?_
    unfold execOp; rw [hx]
    exact (hp_v _).mpr H
  case h_24 t m k x hx =>
    refine OpS_of_hp ?_
    unfold execOp; rw [hx]
    exact (hp_u _).mpr H
  case h_25 x i hx =>
    refine OpS_of_hp ?_
    unfold execOp; rw [hx]
    refine (hp_v _).mpr ?_
    obtain ⟨vs, ha, H⟩ := asTup_out H
    unfold elemH at H
    split at H
    · rename_i v hv
      simp only [Instr.extract, ha, hv]; exact H
    · exact H.elim
  case h_26 b args argTypes hx => exact OpS_of_hp (vbuiltin_sound hx H)
  case h_27 f args argTypes hx =>
    rw [mapV_eq] at H
    split at H
    · exact extV_sound hx H
    · exact callV_sound hx H
  case h_28 => exact OpS_of_hp H
end
end Go.Proofs.Ytgladmaagpcffaa
