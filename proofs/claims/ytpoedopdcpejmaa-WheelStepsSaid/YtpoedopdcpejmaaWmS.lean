/-
  PROVED: 'WheelSteps' returns true for every moment, every row of names with their moments and every row of moments, and nothing that stood in memory turns. No condition.
  How: the evaluator (EvA..EvU) is right on the machine; what it makes of the code is printed (WhA) and checked by the kernel (WhB); the wheel's contracts are WsA..WsE (the sort) and WeA..WeL (slots, moments, Tick); the law's own walk is WeM..WeT; the arguments are opened in WeX and WfS.
-/
import Derived.Test.YtpoedopdcpejmaaWeM
namespace Go.Proofs.Ytpoedopdcpejmaa.wheelSteps
open Go.ChangeShapes Go.WideShapes Go.ChangeAt Go.RowKit Go.Ev
set_option linter.unusedVariables false

theorem own : ownKnob Try.prog.godebug = none := by kernel_rfl
theorem par3 : Try.f3.params = #[3, 22, 23] := by kernel_rfl
theorem und4 : Try.prog.underlying 4 = some .bool := by kernel_rfl
theorem laid : laidOutB Try.prog = true := by kernel_rfl
theorem rowed : mapsRowed Try.prog = true := by kernel_rfl
theorem sized : sizedB Try.prog = true := by kernel_rfl
theorem in22 : 22 < Try.prog.types.size := of_decide_eq_true (by kernel_rfl)
theorem in23 : 23 < Try.prog.types.size := of_decide_eq_true (by kernel_rfl)
theorem in3 : 3 < Try.prog.types.size := of_decide_eq_true (by kernel_rfl)

set_option maxRecDepth 100000 in
theorem lifted (os : Os) (started : os.Started) (H : Type) (enc : TypeId × Value → H) :
    ReturnsInHanded {} Try.checked os 3 .any (Rows.wheelStepsSpec.pre6 enc Try.prog Try.f3 Rows.wheelStepsRow.domain false) (Rows.wheelStepsSpec.post enc Try.prog Try.f3 false true false false) := by
  refine returnsInHanded_of_change (C := Try.checked) own started (by kernel_rfl) Try.func3
    (ChangeSpec.witness6 (enc := enc) (C := Try.checked) false ⟨#[], #[.int .i64 0, .slice none 0 0, .slice none 0 0], []⟩ 8 (by kernel_rfl) (by kernel_rfl) (by kernel_rfl) (by kernel_rfl)) ?_
  intro W base args ds gs before hval0 hW hcnd _
  have hval : ∀ (j : Nat) t v, Try.f3.params[j]? = some t → args[j]? = some v → Value.okWide Try.prog W .any base t v := hval0
  have hW' := hW
  obtain ⟨p, q, hA0, hV, rfl, hfz, hnd⟩ := hW
  have hA : DataW.TrodAll enc Try.prog W 0 (fun _ => true) true Try.f3.params.toList args.toList ds p := hA0
  rw [par3] at hA hval
  obtain ⟨v1, v2, v3, d1, d2, d3, p1, p2, p3, rfl, rfl, _, hd1, hd2, hd3⟩ := trodAll_three hA
  obtain ⟨rfl, rfl⟩ := trodVars_none hV
  obtain ⟨n1, hn1⟩ := hd1
  obtain ⟨n2, hn2⟩ := hd2
  obtain ⟨n3, hn3⟩ := hd3
  simp only [List.append_nil] at hW'
  refine (wheelSteps_walk (Value.okWide_any_base (hval 0 3 v1 rfl rfl)) hn1 (Value.okWide_any_base (hval 1 22 v2 rfl rfl)) hn2 (Value.okWide_any_base (hval 2 23 v3 rfl rfl)) hn3).mono fun e W' ⟨he, hg⟩ => ?_
  subst he
  refine ⟨_, rfl, Ev.post_kept (pa := p) (pv := []) hW' (fun _ _ _ => ?_) (fun sp hs => ?_) (fun _ _ => rfl) (by simp) (hg.frame _)⟩
  · exact trodAll_cons_mk (shut_bool und4 _) trodAll_mk0
  · exact args_stay laid rowed sized hg (fun t ht => by rw [par3] at ht; simp at ht; rcases ht with rfl | rfl | rfl <;> first | exact in22 | exact in3 | exact in23) hA0 hs

theorem over : Rows.wheelStepsRow.holds Try.pinned (OpenSpec.ofChange Rows.wheelStepsSpec) :=
  OpenClaim.holds_of_wide 3 Try.f3 rfl rfl rfl rfl rfl rfl rfl ⟨rfl, rfl, rfl, rfl, rfl⟩ rfl rfl rfl rfl rfl (by kernel_rfl) Try.func3 (by kernel_rfl)
    (of_decide_eq_true (by kernel_rfl)) (by unfold Func.isWrapper; first | (rw [if_pos (by decide +kernel)]; kernel_rfl) | (rw [if_neg (by decide +kernel)]; exact ⟨rfl, rfl⟩))
    (fun os started H enc _ => lifted os started H enc)

/-- ████ THE STATEMENT ████ -/
theorem proved : Rows.WheelStepsSaid :=
  over
#print axioms proved
end Go.Proofs.Ytpoedopdcpejmaa.wheelSteps
