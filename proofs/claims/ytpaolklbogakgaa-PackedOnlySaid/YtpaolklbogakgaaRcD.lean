/-
  PROVED: 'PackedOnly' returns true for every row of bytes, and nothing that stood in memory turns. No condition.
  How: the evaluator (EvA..EvU) is right on the machine; what it makes of the code is printed (PkA) and checked by the kernel (PkB); the contracts of the functions are proved on that (PkC..PkO, RdA..RdX, RbA..RbC); that what is read is a packet, which has one form, is RcA and RcB; the argument is opened in RbD.
-/
import Derived.Test.YtpaolklbogakgaaRbA
namespace Go.Proofs.Ytpaolklbogakgaa.packedOnly
open Go.ChangeShapes Go.WideShapes Go.ChangeAt Go.RowKit Go.Ev
set_option linter.unusedVariables false

theorem own : ownKnob Try.prog.godebug = none := by kernel_rfl
theorem par7 : Try.f7.params = #[29] := by kernel_rfl
theorem res7 : Try.f7.resultTypes = #[4] := by kernel_rfl
theorem und4 : Try.prog.underlying 4 = some .bool := by kernel_rfl
theorem laid : laidOutB Try.prog = true := by kernel_rfl
theorem rowed : mapsRowed Try.prog = true := by kernel_rfl
theorem sized : sizedB Try.prog = true := by kernel_rfl
theorem in29 : 29 < Try.prog.types.size := of_decide_eq_true (by kernel_rfl)

set_option maxRecDepth 100000 in
theorem lifted (os : Os) (started : os.Started) (H : Type) (enc : TypeId × Value → H) :
    ReturnsInHanded {} Try.checked os 7 .any (Rows.packedOnlySpec.pre6 enc Try.prog Try.f7 Rows.packedOnlyRow.domain false) (Rows.packedOnlySpec.post enc Try.prog Try.f7 false true false false) := by
  refine returnsInHanded_of_change (C := Try.checked) own started (by kernel_rfl) Try.func7
    (ChangeSpec.witness6 (enc := enc) (C := Try.checked) false ⟨#[], #[.slice none 0 0], []⟩ 8 (by kernel_rfl) (by kernel_rfl) (by kernel_rfl) (by kernel_rfl)) ?_
  intro W base args ds gs before hval0 hW hcnd _
  have hval : ∀ (j : Nat) t v, Try.f7.params[j]? = some t → args[j]? = some v → Value.okWide Try.prog W .any base t v := hval0
  have hW' := hW
  obtain ⟨p, q, hA0, hV, rfl, hfz, hnd⟩ := hW
  have hA : DataW.TrodAll enc Try.prog W 0 (fun _ => true) true Try.f7.params.toList args.toList ds p := hA0
  rw [par7] at hA hval
  obtain ⟨v, d, rfl, rfl, hd⟩ := trodAll_one hA
  obtain ⟨rfl, rfl⟩ := trodVars_none hV
  obtain ⟨n, hn⟩ := hd
  simp only [List.append_nil] at hW'
  refine (packedOnly_walk (Value.okWide_any_base (hval 0 29 v rfl rfl)) hn).mono fun e W' ⟨he, hg⟩ => ?_
  subst he
  refine ⟨_, rfl, Ev.post_kept (pa := p) (pv := []) hW' (fun _ _ _ => ?_) (fun sp hs => ?_) (fun _ _ => rfl) (by simp) (hg.frame _)⟩
  · exact trodAll_cons_mk (shut_bool und4 _) trodAll_mk0
  · exact args_stay laid rowed sized hg (fun t ht => by rw [par7] at ht; simp at ht; subst ht; exact in29) hA0 hs

theorem over : Rows.packedOnlyRow.holds Try.pinned (OpenSpec.ofChange Rows.packedOnlySpec) :=
  OpenClaim.holds_of_wide 7 Try.f7 rfl rfl rfl rfl rfl rfl rfl ⟨rfl, rfl, rfl, rfl, rfl⟩ rfl rfl rfl rfl rfl (by kernel_rfl) Try.func7 (by kernel_rfl)
    (of_decide_eq_true (by kernel_rfl)) (by unfold Func.isWrapper; first | (rw [if_pos (by decide +kernel)]; kernel_rfl) | (rw [if_neg (by decide +kernel)]; exact ⟨rfl, rfl⟩))
    (fun os started H enc _ => lifted os started H enc)

/-- ████ THE STATEMENT ████ -/
theorem proved : Rows.PackedOnlySaid :=
  over
#print axioms proved
end Go.Proofs.Ytpaolklbogakgaa.packedOnly
