/-
  PROVED: 'WheelDoes' returns true for every moment and every row of calls, and nothing that stood in memory turns. No condition.
  How: the evaluator (EvA..EvU) is right on the machine; what it makes of the code is printed (WhA) and checked by the kernel (WhB); the wheel's contracts are WsA..WsE (the sort) and WeA..WeL (slots, moments, Tick); the document's wheel is WgA..WgF, both side by side WgG..WgI; the arguments are opened in WeX and WfO.
-/
import Derived.Test.YtpoedopdcpejmaaWgD
namespace Go.Proofs.Ytpoedopdcpejmaa.wheelDoes
open Go.ChangeShapes Go.WideShapes Go.ChangeAt Go.RowKit Go.Ev
set_option linter.unusedVariables false

theorem own : ownKnob Try.prog.godebug = none := by kernel_rfl
theorem par7 : Try.f7.params = #[3, 55] := by kernel_rfl
theorem und4 : Try.prog.underlying 4 = some .bool := by kernel_rfl
theorem laid : laidOutB Try.prog = true := by kernel_rfl
theorem rowed : mapsRowed Try.prog = true := by kernel_rfl
theorem sized : sizedB Try.prog = true := by kernel_rfl
theorem in55 : 55 < Try.prog.types.size := of_decide_eq_true (by kernel_rfl)
theorem in3 : 3 < Try.prog.types.size := of_decide_eq_true (by kernel_rfl)

set_option maxRecDepth 100000 in
theorem lifted (os : Os) (started : os.Started) (H : Type) (enc : TypeId × Value → H) :
    ReturnsInHanded {} Try.checked os 7 .any (Rows.wheelDoesSpec.pre6 enc Try.prog Try.f7 Rows.wheelDoesRow.domain false) (Rows.wheelDoesSpec.post enc Try.prog Try.f7 false true false false) := by
  refine returnsInHanded_of_change (C := Try.checked) own started (by kernel_rfl) Try.func7
    (ChangeSpec.witness6 (enc := enc) (C := Try.checked) false ⟨#[], #[.int .i64 0, .slice none 0 0], []⟩ 8 (by kernel_rfl) (by kernel_rfl) (by kernel_rfl) (by kernel_rfl)) ?_
  intro W base args ds gs before hval0 hW hcnd _
  have hval : ∀ (j : Nat) t v, Try.f7.params[j]? = some t → args[j]? = some v → Value.okWide Try.prog W .any base t v := hval0
  have hW' := hW
  obtain ⟨p, q, hA0, hV, rfl, hfz, hnd⟩ := hW
  have hA : DataW.TrodAll enc Try.prog W 0 (fun _ => true) true Try.f7.params.toList args.toList ds p := hA0
  rw [par7] at hA hval
  obtain ⟨v1, v2, d1, d2, p1, p2, rfl, rfl, _, hd1, hd2⟩ := trodAll_two hA
  obtain ⟨rfl, rfl⟩ := trodVars_none hV
  obtain ⟨n1, hn1⟩ := hd1
  obtain ⟨n2, hn2⟩ := hd2
  simp only [List.append_nil] at hW'
  refine (wheelDoes_walk (Value.okWide_any_base (hval 0 3 v1 rfl rfl)) hn1 (Value.okWide_any_base (hval 1 55 v2 rfl rfl)) hn2).mono fun e W' ⟨he, hg⟩ => ?_
  subst he
  refine ⟨_, rfl, Ev.post_kept (pa := p) (pv := []) hW' (fun _ _ _ => ?_) (fun sp hs => ?_) (fun _ _ => rfl) (by simp) (hg.frame _)⟩
  · exact trodAll_cons_mk (shut_bool und4 _) trodAll_mk0
  · exact args_stay laid rowed sized hg (fun t ht => by rw [par7] at ht; simp at ht; rcases ht with rfl | rfl <;> first | exact in55 | exact in3) hA0 hs

theorem over : Rows.wheelDoesRow.holds Try.pinned (OpenSpec.ofChange Rows.wheelDoesSpec) :=
  OpenClaim.holds_of_wide 7 Try.f7 rfl rfl rfl rfl rfl rfl rfl ⟨rfl, rfl, rfl, rfl, rfl⟩ rfl rfl rfl rfl rfl (by kernel_rfl) Try.func7 (by kernel_rfl)
    (of_decide_eq_true (by kernel_rfl)) (by unfold Func.isWrapper; first | (rw [if_pos (by decide +kernel)]; kernel_rfl) | (rw [if_neg (by decide +kernel)]; exact ⟨rfl, rfl⟩))
    (fun os started H enc _ => lifted os started H enc)

/-- ████ THE STATEMENT ████ -/
theorem proved : Rows.WheelDoesSaid :=
  over
#print axioms proved
end Go.Proofs.Ytpoedopdcpejmaa.wheelDoes
