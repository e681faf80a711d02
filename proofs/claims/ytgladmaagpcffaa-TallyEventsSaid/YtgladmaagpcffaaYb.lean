/- strings.Builder; an answer's text; the digits of layer 40. -/
import Derived.Test.YtgladmaagpcffaaYa
set_option linter.unusedSimpArgs false
set_option linter.unusedVariables false
set_option maxRecDepth 20000
namespace Go.Proofs.Ytgladmaagpcffaa

theorem hp_shape {P : Program} (r : Nat) (F : Option (TypeId × Nat) → Heap → Prop) (h : Heap) : hp P (shape r) F h = F (shapeAt h r) h := rfl
theorem hp_viewAt {P : Program} {h : Heap} {b : Nat} {row : Array Value} {t : TypeId} (e : h[b]? = some (.cells row t)) (F : Option (Addr × TypeId) → Heap → Prop) : hp P (viewAt b) F h = F none h := by
  unfold viewAt
  have : shapeAt h b = some (t, row.size) := by unfold shapeAt; rw [e]
  simp only [hp_bind, hp_shape, this]; rfl
theorem hp_cellsIn {P : Program} {h : Heap} {b : Nat} {row : Array Value} {t : TypeId} (e : h[b]? = some (.cells row t)) (F : Option Nat → Heap → Prop) : hp P (cellsIn b) F h = F (some row.size) h := by
  unfold cellsIn
  have : shapeAt h b = some (t, row.size) := by unfold shapeAt; rw [e]
  simp only [hp_bind, hp_shape, this]; rfl
theorem und_pb : und Try.prog 109 = .pointer 112 := by kernel_rfl
theorem und_up : und Try.prog 169 = .unsafePointer := by kernel_rfl
theorem there_b : there Try.prog 112 = true := by kernel_rfl
theorem siz_b : siz Try.prog 112 = 2 := by kernel_rfl
theorem lies_b : liesAt Try.prog Try.prog.depth 112 (2 / Try.prog.cellsOf 112) 0 112 1 = true := by kernel_rfl
theorem cvt_toU {h : Heap} {p : Nat} {v0 v1 : Value} {K : Value → Heap → Prop} (e : h[p]? = some (.cells #[v0, v1] 112)) (k : K (.pointer (some ⟨p, 0, none⟩)) h) : cvtH Try.prog 109 169 (.pointer (some ⟨p, 0, none⟩)) h K := by
  unfold cvtH convert
  simp only [hp_bind, hp_underlying (und_some und_pb (by simp)), hp_underlying (und_some und_up (by simp))]
  unfold Conv.unsafePointer
  simp only [hp_bind, hp_underlying (und_some und_pb (by simp)), hp_underlying (und_some und_up (by simp)), Conv.seenAt, hp_viewAt e, hp_pure, hp_cellsIn e, hp_sizeOf there_b, siz_b]
  exact k
theorem cvt_fromU {h : Heap} {p : Nat} {v0 v1 : Value} {K : Value → Heap → Prop} (e : h[p]? = some (.cells #[v0, v1] 112)) (k : K (.pointer (some ⟨p, 0, none⟩)) h) : cvtH Try.prog 169 109 (.pointer (some ⟨p, 0, none⟩)) h K := by
  unfold cvtH convert
  simp only [hp_bind, hp_underlying (und_some und_pb (by simp)), hp_underlying (und_some und_up (by simp))]
  unfold Conv.unsafePointer
  have : shapeAt h p = some (112, 2) := by unfold shapeAt; rw [e]; rfl
  simp only [hp_bind, hp_underlying (und_some und_pb (by simp)), hp_underlying (und_some und_up (by simp)), Conv.seenAt, hp_viewAt e, hp_pure, hp_sizeOf there_b, siz_b, variablesAt, hp_program, hp_shape, this, lies_b]
  exact k
theorem ext_same {P : Program} {f : FuncId} {fn : Func} {h : Heap} {v : Value} {K : Value → Heap → Prop} (h1 : P.funcs[f]? = some fn) (h2 : (fn.name == "runtime.NumGoroutine") = false) (h3 : fn.body.isNone = true) (h4 : (Extern.findNext fn).isNone = true)
    (h5 : Extern.find fn = some Extern.AbiNoEscape.same) (k : K v h) : ExtH P f #[v] h K := by
  unfold ExtH callFunc
  have h4' : Extern.findNext fn = none := Option.isNone_iff_eq_none.1 h4
  clear h4
  rw [hp_bind, hp_program, h1]
  show hp P (if (fn.name == "runtime.NumGoroutine") = true then _ else _) _ h
  rw [h2]
  show hp P (if fn.body.isNone = true then _ else _) _ h
  rw [h3, if_pos rfl, hp_bind]
  show hp P (match Extern.findNext fn with | some e => e #[v] | _ => _) _ h
  generalize Extern.findNext fn = o1 at *
  subst h4'
  show hp P (match Extern.find fn with | some e => (do let x ← e #[v]; pure (Next.value x)) | none => _) _ h
  generalize Extern.find fn = o2 at *
  subst h5
  exact k
theorem noEscape_ext {h : Heap} {v : Value} {K : Value → Heap → Prop} (k : K v h) : extV Try.prog (.func (.func 146) #[] #[]) #[v] h K := by
  unfold extV
  exact ext_same Try.func146 (by kernel_rfl) (by kernel_rfl) (by kernel_rfl) (by kernel_rfl) k
theorem eqIn_ptr2 {P : Program} (d : Nat) {t el : TypeId} {a b : Addr} (hu : P.underlying t = some (.pointer el)) (hth : there P el = true) (hsz : siz P el ≠ 0) (F : Bool → Heap → Prop) (h : Heap) (H : hp P (sameAddr a b) F h) : hp P (Op.equalIn (d + 1) t (.pointer (some a)) (.pointer (some b))) F h := by
  simp only [Op.equalIn, hp_bind, hp_underlying hu, hp_sizeOf hth]
  rw [if_pos hsz]
  exact H
theorem ptr_same {h : Heap} {p : Nat} {K : Value → Heap → Prop} (k : K (.bool false) h) : ptrH Try.prog .neq 109 (some ⟨p, 0, none⟩) (some ⟨p, 0, none⟩) h K := by
  unfold ptrH
  rw [hp_binOp_neq (by simp) (by simp) (by simp) (by simp), equal_succ]
  refine eqIn_ptr2 9999 (und_some und_pb (by simp)) there_b (by rw [siz_b]; omega) _ _ ?_
  unfold sameAddr
  simp only [beq_self_eq_true, if_true]
  exact k

theorem copyCheck_call {h : Heap} {p : Nat} {q : Option Addr} {v : Value} {K : Value → Heap → Prop} (e : h[p]? = some (.cells #[.pointer q, v] 112)) (hq : q = none ∨ q = some ⟨p, 0, none⟩)
    (k : ∀ h', h'[p]? = some (.cells #[.pointer (some ⟨p, 0, none⟩), v] 112) → h'.size = h.size → (∀ c, c ≠ p → h'[c]? = h[c]?) → K (.tuple #[]) h') :
    CallH Try.prog 124 #[.pointer (some ⟨p, 0, none⟩)] h K := by
  refine call124 ?_
  unfold F124
  simp only [nilC, asPtr_some]
  refine ldR e rfl ?_
  simp only [asPtrO]
  rcases hq with rfl | rfl
  · simp only [Option.isNone_none, ifB_true]
    refine cvt_toU e (noEscape_ext (cvt_fromU e ?_))
    simp only [asPtrO]
    refine stR e rfl trivial fun h' w => ?_
    refine k h' ?_ w.size (fun c hc => w.old c hc)
    have := w.new
    exact this
  · simp only [Option.isNone_some, ifB_false]
    refine ldR e rfl ?_
    simp only [asPtrO]
    refine ptr_same ?_
    simp only [asBool_bool, ifB_false]
    exact k h e rfl fun _ _ => rfl
end Go.Proofs.Ytgladmaagpcffaa
