/-
  PROVED: 'WheelAgain' returns true for every moment, every row of names with their moments, every name and every three moments, and nothing that stood in memory turns. No condition.
  How: the evaluator (EvA..EvU) is right on the machine; what it makes of the code is printed (WhA) and checked by the kernel (WhB); the wheel's contracts are WsA..WsE (the sort) and WeA..WeL (slots, moments, Tick); the law's own walk is WeM..WeR; the arguments are opened in WeX and WfA.
-/
import Derived.Test.YtpoedopdcpejmaaWeM
namespace Go.Proofs.Ytpoedopdcpejmaa.wheelAgain
open Go.ChangeShapes Go.WideShapes Go.ChangeAt Go.RowKit Go.Ev
set_option linter.unusedVariables false

theorem own : ownKnob Try.prog.godebug = none := by kernel_rfl
theorem par5 : Try.f5.params = #[3, 22, 39, 3, 3, 3] := by kernel_rfl
theorem und4 : Try.prog.underlying 4 = some .bool := by kernel_rfl
theorem laid : laidOutB Try.prog = true := by kernel_rfl
theorem rowed : mapsRowed Try.prog = true := by kernel_rfl
theorem sized : sizedB Try.prog = true := by kernel_rfl
theorem in22 : 22 < Try.prog.types.size := of_decide_eq_true (by kernel_rfl)
theorem in39 : 39 < Try.prog.types.size := of_decide_eq_true (by kernel_rfl)
theorem in3 : 3 < Try.prog.types.size := of_decide_eq_true (by kernel_rfl)

set_option maxRecDepth 100000 in
theorem lifted (os : Os) (started : os.Started) (H : Type) (enc : TypeId × Value → H) :
    ReturnsInHanded {} Try.checked os 5 .any (Rows.wheelAgainSpec.pre6 enc Try.prog Try.f5 Rows.wheelAgainRow.domain false) (Rows.wheelAgainSpec.post enc Try.prog Try.f5 false true false false) := by
  refine returnsInHanded_of_change (C := Try.checked) own started (by kernel_rfl) Try.func5
    (ChangeSpec.witness6 (enc := enc) (C := Try.checked) false ⟨#[], #[.int .i64 0, .slice none 0 0, .agg #[.int .i64 0, .string .empty], .int .i64 0, .int .i64 0, .int .i64 0], []⟩ 8 (by kernel_rfl) (by kernel_rfl) (by kernel_rfl) (by kernel_rfl)) ?_
  intro W base args ds gs before hval0 hW hcnd _
  have hval : ∀ (j : Nat) t v, Try.f5.params[j]? = some t → args[j]? = some v → Value.okWide Try.prog W .any base t v := hval0
  have hW' := hW
  obtain ⟨p, q, hA0, hV, rfl, hfz, hnd⟩ := hW
  have hA : DataW.TrodAll enc Try.prog W 0 (fun _ => true) true Try.f5.params.toList args.toList ds p := hA0
  rw [par5] at hA hval
  obtain ⟨v1, v2, v3, v4, v5, v6, d1, d2, d3, d4, d5, d6, p1, p2, p3, p4, p5, p6, rfl, rfl, hd1, hd2, hd3, hd4, hd5, hd6⟩ := trodAll_six hA
  obtain ⟨rfl, rfl⟩ := trodVars_none hV
  obtain ⟨n1, hn1⟩ := hd1
  obtain ⟨n2, hn2⟩ := hd2
  obtain ⟨n3, hn3⟩ := hd3
  obtain ⟨n4, hn4⟩ := hd4
  obtain ⟨n5, hn5⟩ := hd5
  obtain ⟨n6, hn6⟩ := hd6
  simp only [List.append_nil] at hW'
  refine (wheelAgain_walk (Value.okWide_any_base (hval 0 3 v1 rfl rfl)) hn1 (Value.okWide_any_base (hval 1 22 v2 rfl rfl)) hn2 (Value.okWide_any_base (hval 2 39 v3 rfl rfl)) hn3 (Value.okWide_any_base (hval 3 3 v4 rfl rfl)) hn4 (Value.okWide_any_base (hval 4 3 v5 rfl rfl)) hn5 (Value.okWide_any_base (hval 5 3 v6 rfl rfl)) hn6).mono fun e W' ⟨he, hg⟩ => ?_
  subst he
  refine ⟨_, rfl, Ev.post_kept (pa := p) (pv := []) hW' (fun _ _ _ => ?_) (fun sp hs => ?_) (fun _ _ => rfl) (by simp) (hg.frame _)⟩
  · exact trodAll_cons_mk (shut_bool und4 _) trodAll_mk0
  · exact args_stay laid rowed sized hg (fun t ht => by rw [par5] at ht; simp at ht; rcases ht with rfl | rfl | rfl | rfl | rfl | rfl <;> first | exact in22 | exact in3 | exact in39) hA0 hs

theorem over : Rows.wheelAgainRow.holds Try.pinned (OpenSpec.ofChange Rows.wheelAgainSpec) :=
  OpenClaim.holds_of_wide 5 Try.f5 rfl rfl rfl rfl rfl rfl rfl ⟨rfl, rfl, rfl, rfl, rfl⟩ rfl rfl rfl rfl rfl (by kernel_rfl) Try.func5 (by kernel_rfl)
    (of_decide_eq_true (by kernel_rfl)) (by unfold Func.isWrapper; first | (rw [if_pos (by decide +kernel)]; kernel_rfl) | (rw [if_neg (by decide +kernel)]; exact ⟨rfl, rfl⟩))
    (fun os started H enc _ => lifted os started H enc)

/-- ████ THE STATEMENT ████ -/
theorem proved : Rows.WheelAgainSaid :=
  over
#print axioms proved
end Go.Proofs.Ytpoedopdcpejmaa.wheelAgain
