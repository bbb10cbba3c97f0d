/-
  PROVED: 'PackedNames' returns true, and nothing that stood in memory turns. No condition.
  How: the evaluator (EvA..EvU) runs the function's code by the kernel; its answer holds for every tape (EvT: 'callF_ok').
-/
import Derived.Test.YtpaolklbogakgaaRows
import Derived.WalkKit
import Derived.ProofKit
import Derived.OpenShut
import Derived.KernelRfl
import Derived.Test.YtpaolklbogakgaaEvU
namespace Go.Proofs.Ytpaolklbogakgaa.packedNames
open Go.ChangeShapes Go.WideShapes Go.ChangeAt Go.RowKit
set_option linter.unusedVariables false      -- a walk need not use every 'w<i>' (that an integer argument fits its kind)

theorem own : ownKnob Try.prog.godebug = none := by kernel_rfl

def masks : List Nat := [0, 0, 0, 383, 4195325, 1648319, 4311752695, 536936957, 4398047576079, 8532543, 4255, 274886297597, 8598325245, 31, 7, 2417851639299627093598239, 2013265967, 13, 1223, 11440979185133664387406296579253639856135340063, 19503373574251772171518399, 455, 2147623923, 41700713373270422443459610422648819, 4438660083, 17592219615475, 17594400636991, 137440002619, 2003, 45, 5, 199, 5, 4456455, 45, 5, 5, 21, 65597, 65597, 5, 2251834173505533, 5, 19, 7, 65551, 5, 69794271229, 253, 81064793296863485, 590331878738148458483, 66483, 5, 16777469, 21, 67109885, 0, 0, 0, 0, 0, 0, 0, 0, 0, 0, 0, 0, 0, 0, 0, 0, 0]

theorem gor : Ev.NoGor Try.prog := Ev.noGor_of (by kernel_rfl)
theorem ran : Ev.callF Try.prog (Ev.maskOf masks) 0 1000000 200 5 [] ⟨.e, 0⟩ Ev.isT = true := by kernel_rfl

theorem walk (w : World) : Calls Try.prog 5 #[] w fun e w' => e = .returned (.bool true) ∧ Below w.heap.size w w' :=
  Ev.calls_true gor Try.checked.mixed ran w

/-! ### THE ROW's STEP: WRITTEN OUT: LEAVE IT -/
set_option maxRecDepth 100000 in
theorem lifted (os : Os) (started : os.Started) (H : Type) (enc : TypeId × Value → H) :
    ReturnsInHanded {} Try.checked os 5 .any (Rows.packedNamesSpec.pre6 enc Try.prog Try.f5 Rows.packedNamesRow.domain false) (Rows.packedNamesSpec.post enc Try.prog Try.f5 false true false false) := by
  refine returnsInHanded_of_change (C := Try.checked) own started (by kernel_rfl) Try.func5
    (ChangeSpec.witness6 (enc := enc) (C := Try.checked) false ⟨#[], #[], []⟩ 8 (by kernel_rfl) (by kernel_rfl) (by kernel_rfl) (by kernel_rfl)) ?_
  intro W base args ds gs before hval0 hW hcnd _
  have hval : ∀ (j : Nat) t v, Try.f5.params[j]? = some t → args[j]? = some v → Value.okWide Try.prog W .any base t v := hval0
  have hW' := hW
  obtain ⟨p, q, hA0, hV, rfl, hfz, hnd⟩ := hW
  have hA : DataW.TrodAll enc Try.prog W 0 (fun _ => true) true Try.f5.params.toList args.toList ds p := hA0
  rw [Try.params5] at hA hval
  obtain ⟨rfl, rfl, rfl⟩ := trodAll_none hA
  obtain ⟨rfl, rfl⟩ := trodVars_none hV
  clear hA0 hval0
  simp only [List.append_nil] at hW'
  refine (walk  W).mono fun e W' ⟨he, hg⟩ => ?_
  subst he
  exact ⟨_, rfl, Ev.post_kept (pa := []) (pv := []) hW' (fun _ _ _ => (trodAll_cons_mk (shut_bool Try.underlying4 _) trodAll_mk0)) (fun sp _ => rfl) (fun _ _ => rfl) rfl
    (hg.frame _)⟩

theorem over : Rows.packedNamesRow.holds Try.pinned (OpenSpec.ofChange Rows.packedNamesSpec) :=
  OpenClaim.holds_of_wide 5 Try.f5 rfl rfl rfl rfl rfl rfl rfl ⟨rfl, rfl, rfl, rfl, rfl⟩ rfl rfl rfl rfl rfl (by kernel_rfl) Try.func5 (by kernel_rfl)
    (of_decide_eq_true (by kernel_rfl)) (by unfold Func.isWrapper; first | (rw [if_pos (by decide +kernel)]; kernel_rfl) | (rw [if_neg (by decide +kernel)]; exact ⟨rfl, rfl⟩))
    (fun os started H enc _ => lifted os started H enc)

/-- ████ THE STATEMENT ████ -/
theorem proved : Rows.PackedNamesSaid :=
  over
#print axioms proved
end Go.Proofs.Ytpaolklbogakgaa.packedNames
