/-
  PROVED: the tied card of 'TextWrites': it returns true for every request, and nothing that stood in memory turns. Condition: the package variables that the row lists hold what the program's text lays (the card ties them); of them the powers of ten are read.
  How: the evaluator (EvA..EvU) is right on the machine; what it makes of the code is printed (XaA) and checked by the kernel (XaB); the contracts of the functions, strconv's and strings' own among them, are XaC..XbT; the argument and the table are opened in XbU and XbV.
-/
import Derived.Test.YtilpiiafjehbnaaDoorXbU
import Derived.Lay
import Derived.Stop.Joined
import Derived.SevenTiedAt
import Derived.Test.YtilpiiafjehbnaaDoorTie
import Derived.Test.YtilpiiafjehbnaaDoorCards
namespace Go.Proofs.YtilpiiafjehbnaaDoor.textWrites
open Go.ChangeShapes Go.WideShapes Go.ChangeAt Go.WideMaps Go.WideElems Go.RowKit Go.Ev
set_option linter.unusedVariables false

theorem own : ownKnob Tryd.prog.godebug = none := by kernel_rfl
theorem par3 : Tryd.f3.params = #[28] := by kernel_rfl
theorem und4 : Tryd.prog.underlying 4 = some .bool := by kernel_rfl
theorem laidO : laidOutB Tryd.prog = true := by kernel_rfl
theorem rowed : mapsRowed Tryd.prog = true := by kernel_rfl
theorem sized : sizedB Tryd.prog = true := by kernel_rfl
theorem in28 : 28 < Tryd.prog.types.size := of_decide_eq_true (by kernel_rfl)
theorem stand28 : Tryd.pinned.checked.prog.wantsStandIn 28 = false := by kernel_rfl

def laid : List (String × DataW Unit) := [("math/bits.deBruijn32tab", Rows.laid_math_bits_deBruijn32tab), ("math/bits.deBruijn64tab", Rows.laid_math_bits_deBruijn64tab), ("internal/strconv.uint64pow10", Rows.laid_internal_strconv_uint64pow10)]

set_option maxRecDepth 100000 in
theorem lifted (os : Os) (started : os.Started) (H : Type) (enc : TypeId × Value → H) :
    ReturnsInHanded {} Tryd.checked os 3 .any (fun w args => (Rows.textWritesSpec.pre enc Tryd.prog Tryd.f3 [] false w args ∧ laidMetH Tryd.prog laid w) ∧ sizedMet enc Tryd.prog Tryd.f3 (OpenSpec.ofChange Rows.textWritesSpec) false w args)
      (Rows.textWritesSpec.post enc Tryd.prog Tryd.f3 false true false false) := by
  refine returnsInHanded_of_change_and (C := Tryd.checked) (X := fun w _ => laidMetH Tryd.prog laid w) (fun _ _ _ hh h => h.of_heap hh) own started (by kernel_rfl) Tryd.func3
    (ChangeSpec.witness_shaped (enc := enc) (C := Tryd.checked) (os := os) (X := fun w _ => laidMetH Tryd.prog laid w) false (World.laidAll Tryd.prog os laid) #[.agg #[.int .u8 0, .int .u8 0, .int .i64 0, .slice none 0 0, .string .empty, .int .u32 0, .int .i64 0, .int .u64 0, .int .u64 0, .int .i64 0, .string .empty, .bool false, .bool false]] 8 (World.laidAll_os _ _ _)
      (World.shaped_of_ZipB (by kernel_rfl) (by kernel_rfl)) (by kernel_rfl) (by kernel_rfl) (by kernel_rfl)
      (by rw [MakeChecks.laidMetH_plain _ _ _ (by kernel_rfl)]; exact laidMet_laidAll _ (by kernel_rfl) (by kernel_rfl))) ?_
  intro W base args ds gs before hval0 hW _ _ hL _
  have hval : ∀ (j : Nat) t v, Tryd.f3.params[j]? = some t → args[j]? = some v → Value.okWide Tryd.prog W .any base t v := hval0
  have hW' := hW
  obtain ⟨p, q, hA0, hV, rfl, hfz, hnd⟩ := hW
  have hA : DataW.TrodAll enc Tryd.prog W 0 (fun _ => true) true Tryd.f3.params.toList args.toList ds p := hA0
  rw [par3] at hA hval
  obtain ⟨v, d, rfl, rfl, hd⟩ := trodAll_one hA
  obtain ⟨rfl, rfl⟩ := trodVars_none hV
  obtain ⟨n, hn⟩ := hd
  have hc := pow_cell (l := laid) (by kernel_rfl) (by simp [laid]) hL
  simp only [List.append_nil] at hW'
  refine (textWrites_walk hc (Value.okWide_any_base (hval 0 28 v rfl rfl)) hn).mono fun e W' ⟨he, hg⟩ => ?_
  subst he
  refine ⟨_, rfl, Ev.post_kept (pa := p) (pv := []) hW' (fun _ _ _ => ?_) (fun sp hs => ?_) (fun _ _ => rfl) (by simp) (hg.frame _)⟩
  · exact trodAll_cons_mk (shut_bool und4 _) trodAll_mk0
  · exact args_stay laidO rowed sized hg (fun t ht => by rw [par3] at ht; simp at ht; subst ht; exact in28) hA0 hs

theorem over : Rows.textWritesRow.holds Tryd.pinned (OpenSpec.ofChange Rows.textWritesSpec) :=
  OpenClaim.holds_of_wide 3 Tryd.f3 rfl rfl rfl rfl rfl rfl rfl ⟨rfl, rfl, rfl, rfl, rfl⟩ rfl rfl rfl rfl rfl (by kernel_rfl) Tryd.func3 (by kernel_rfl)
    (of_decide_eq_true (by kernel_rfl)) (by unfold Func.isWrapper; first | (rw [if_pos (by decide +kernel)]; kernel_rfl) | (rw [if_neg (by decide +kernel)]; exact ⟨rfl, rfl⟩))
    (fun os started H enc _ => lifted os started H enc)

/-- ████ THE STATEMENT: THE TIED CARD ████ -/
theorem proved : Rows.TextWritesCardSaid :=
  Claim7.holds_tied_plain_at .later [] [.data, .data, .data] true (true, "37fbdfccf95feefd5ce166faf5f9a20f9b94d061e2071a2d953f110ab4d6a49d") false
    over (fun _ h => by cases h) (by kernel_rfl) (fun _ h => by cases h) textWrites_row_tie rfl ⟨rfl, rfl⟩ (by kernel_rfl) rfl
    (fun f fn hf hfn => by
      obtain rfl : f = 3 := Option.some.inj ((show Tryd.prog.funcNamed "cloakroom/cloakroomlaw14.TextWrites" = some 3 by kernel_rfl).symm.trans hf) |>.symm
      obtain rfl : fn = Tryd.f3 := (Option.some.inj (Tryd.func3.symm.trans hfn)).symm
      exact ⟨by kernel_rfl, fun j t ht => by
        rw [par3] at ht
        match j, ht with
        | 0, ht => simp at ht; subst ht; exact stand28
        | j + 1, ht => simp at ht⟩)
    (by kernel_rfl)
#print axioms proved
end Go.Proofs.YtilpiiafjehbnaaDoor.textWrites
