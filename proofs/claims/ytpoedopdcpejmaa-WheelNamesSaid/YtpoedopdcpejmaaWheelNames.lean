/-
  PROVED: 'WheelNames' returns true, and nothing that stood in memory turns. No condition.
  How: the evaluator (EvA..EvU) runs the function's code by the kernel; its answer holds for every tape (EvT: 'callF_ok').
-/
import Derived.Test.YtpoedopdcpejmaaRows
import Derived.WalkKit
import Derived.ProofKit
import Derived.OpenShut
import Derived.KernelRfl
import Derived.Test.YtpoedopdcpejmaaEvU
namespace Go.Proofs.Ytpoedopdcpejmaa.wheelNames
open Go.ChangeShapes Go.WideShapes Go.ChangeAt Go.RowKit
set_option linter.unusedVariables false      -- a walk need not use every 'w<i>' (that an integer argument fits its kind)

theorem own : ownKnob Try.prog.godebug = none := by kernel_rfl

def masks : List Nat := [0, 0, 0, 9672587157544950231465927, 383123885227625332045352966213518110654591263672631239, 349810273843762002499707532736298829738303, 22408183, 158456325028672861018786168819, 65663, 525, 2099213, 2251799813951987, 605016312624374960283635, 45, 45, 33571891, 33563131, 31, 8392919, 33851, 525, 316912651237649006276395401207, 5, 147, 19, 2611, 8279, 19, 63, 17389, 604275, 19, 315, 65659, 33407, 17023, 8598455287, 4611686018429490143, 16661, 51, 42535296023574879666274036850519702559, 5, 5, 19, 7, 1049663, 67703, 17179886351, 8592039695, 35218731966215, 1333065575601045263, 33543, 21268317252094917911888073248812900111, 1217485249602318769183, 22997644815212700899627017342834150232570911, 277, 0, 5, 5, 288231475663604767, 5, 5, 271, 4159, 4197407, 0, 0, 0, 0, 0, 0, 0, 0, 0, 0, 0, 0, 0, 0, 0, 0, 0]

theorem gor : Ev.NoGor Try.prog := Ev.noGor_of (by kernel_rfl)
def outside : List (Nat × Ev.XK) := [(56, .cmp)]
theorem xok : Ev.XOK Try.prog outside := Ev.xok_cons Try.func56 (by kernel_rfl) (by kernel_rfl) (by kernel_rfl) (Ev.xok_nil)
theorem ran : Ev.callF Try.prog (Ev.maskOf masks) outside 0 1000000 200 6 [] ⟨.e, 0⟩ Ev.isT = true := by kernel_rfl

theorem walk (w : World) : Calls Try.prog 6 #[] w fun e w' => e = .returned (.bool true) ∧ Below w.heap.size w w' :=
  Ev.calls_true gor Try.checked.mixed xok Try.func6 (by kernel_rfl) ran w

/-! ### THE ROW's STEP: WRITTEN OUT: LEAVE IT -/
set_option maxRecDepth 100000 in
theorem lifted (os : Os) (started : os.Started) (H : Type) (enc : TypeId × Value → H) :
    ReturnsInHanded {} Try.checked os 6 .any (Rows.wheelNamesSpec.pre6 enc Try.prog Try.f6 Rows.wheelNamesRow.domain false) (Rows.wheelNamesSpec.post enc Try.prog Try.f6 false true false false) := by
  refine returnsInHanded_of_change (C := Try.checked) own started (by kernel_rfl) Try.func6
    (ChangeSpec.witness6 (enc := enc) (C := Try.checked) false ⟨#[], #[], []⟩ 8 (by kernel_rfl) (by kernel_rfl) (by kernel_rfl) (by kernel_rfl)) ?_
  intro W base args ds gs before hval0 hW hcnd _
  have hval : ∀ (j : Nat) t v, Try.f6.params[j]? = some t → args[j]? = some v → Value.okWide Try.prog W .any base t v := hval0
  have hW' := hW
  obtain ⟨p, q, hA0, hV, rfl, hfz, hnd⟩ := hW
  have hA : DataW.TrodAll enc Try.prog W 0 (fun _ => true) true Try.f6.params.toList args.toList ds p := hA0
  rw [Try.params6] at hA hval
  obtain ⟨rfl, rfl, rfl⟩ := trodAll_none hA
  obtain ⟨rfl, rfl⟩ := trodVars_none hV
  clear hA0 hval0
  simp only [List.append_nil] at hW'
  refine (walk  W).mono fun e W' ⟨he, hg⟩ => ?_
  subst he
  exact ⟨_, rfl, Ev.post_kept (pa := []) (pv := []) hW' (fun _ _ _ => (trodAll_cons_mk (shut_bool Try.underlying4 _) trodAll_mk0)) (fun sp _ => rfl) (fun _ _ => rfl) rfl
    (hg.frame _)⟩

theorem over : Rows.wheelNamesRow.holds Try.pinned (OpenSpec.ofChange Rows.wheelNamesSpec) :=
  OpenClaim.holds_of_wide 6 Try.f6 rfl rfl rfl rfl rfl rfl rfl ⟨rfl, rfl, rfl, rfl, rfl⟩ rfl rfl rfl rfl rfl (by kernel_rfl) Try.func6 (by kernel_rfl)
    (of_decide_eq_true (by kernel_rfl)) (by unfold Func.isWrapper; first | (rw [if_pos (by decide +kernel)]; kernel_rfl) | (rw [if_neg (by decide +kernel)]; exact ⟨rfl, rfl⟩))
    (fun os started H enc _ => lifted os started H enc)

/-- ████ THE STATEMENT ████ -/
theorem proved : Rows.WheelNamesSaid :=
  over
#print axioms proved
end Go.Proofs.Ytpoedopdcpejmaa.wheelNames
