/-
  PROVED: the tied card of 'TextOnly': it returns true for every two rows of bytes, and nothing that stood in memory turns. Conditions: the package variables that the row lists hold what the program's text lays (the card ties them); of them the powers of ten and strconv.ErrRange (a pointer that is not nil) are read. The variable internal/bytealg.MaxLen may hold any number.
  How: the evaluator (EvA..EvZ) is right on the machine; what it makes of the code is printed (ZaA, ZaC) and checked by the kernel (ZaB); the contracts of the functions are the other Z texts; the arguments and the variables are opened in ZfA.
-/
import Derived.Test.YtilpiiafjehbnaaGreatDoorZgA
import Derived.Lay
import Derived.Stop.Joined
import Derived.SevenTiedAt
import Derived.Test.YtilpiiafjehbnaaGreatDoorTie
import Derived.Test.YtilpiiafjehbnaaGreatDoorCards
namespace Go.Proofs.YtilpiiafjehbnaaGreatDoor.textOnly
open Go.ChangeShapes Go.WideShapes Go.ChangeAt Go.WideMaps Go.WideElems Go.RowKit Go.Ev
set_option linter.unusedVariables false
theorem own : ownKnob Tryz.prog.godebug = none := by kernel_rfl
theorem par7 : Tryz.f7.params = #[34, 34] := by kernel_rfl
theorem und4 : Tryz.prog.underlying 4 = some .bool := by kernel_rfl
theorem laidO : laidOutB Tryz.prog = true := by kernel_rfl
theorem rowed : mapsRowed Tryz.prog = true := by kernel_rfl
theorem sized : sizedB Tryz.prog = true := by kernel_rfl
theorem in34 : 34 < Tryz.prog.types.size := of_decide_eq_true (by kernel_rfl)
theorem stand34 : Tryz.pinned.checked.prog.wantsStandIn 34 = false := by kernel_rfl
def laid : List (String × DataW Unit) := [("math/bits.deBruijn32tab", Rows.laid_math_bits_deBruijn32tab), ("math/bits.deBruijn64tab", Rows.laid_math_bits_deBruijn64tab), ("internal/strconv.uint64pow10", Rows.laid_internal_strconv_uint64pow10), ("unicode/utf8.acceptRanges", Rows.laid_unicode_utf8_acceptRanges), ("strconv.ErrRange", Rows.laid_strconv_ErrRange), ("strconv.ErrSyntax", Rows.laid_strconv_ErrSyntax), ("unicode/utf8.first", Rows.laid_unicode_utf8_first)]
set_option maxRecDepth 100000 in
theorem lifted (os : Os) (started : os.Started) (H : Type) (enc : TypeId × Value → H) :
   ReturnsInHanded {} Tryz.checked os 7 .any (fun w args => (Rows.textOnlySpec.pre enc Tryz.prog Tryz.f7 [] false w args ∧ laidMetH Tryz.prog laid w) ∧ sizedMet enc Tryz.prog Tryz.f7 (OpenSpec.ofChange Rows.textOnlySpec) false w args)
     (Rows.textOnlySpec.post enc Tryz.prog Tryz.f7 false true false false) := by
 refine Ev.returnsInHanded_and_shaped (C := Tryz.checked) (X := fun w _ => laidMetH Tryz.prog laid w) (fun _ _ _ hh h => h.of_heap hh) own started (by kernel_rfl) Tryz.func7
   (ChangeSpec.witness_shaped (enc := enc) (C := Tryz.checked) (os := os) (X := fun w _ => laidMetH Tryz.prog laid w) false (World.laidAll Tryz.prog os laid) #[.slice none 0 0, .slice none 0 0] 8 (World.laidAll_os _ _ _)
     (World.shaped_of_ZipB (by kernel_rfl) (by kernel_rfl)) (by kernel_rfl) (by kernel_rfl) (by kernel_rfl)
     (by rw [MakeChecks.laidMetH_plain _ _ _ (by kernel_rfl)]; exact laidMet_laidAll _ (by kernel_rfl) (by kernel_rfl))) ?_
 intro W base args ds gs before hval0 hW hL hsh
 have hval : ∀ (j : Nat) t v, Tryz.f7.params[j]? = some t → args[j]? = some v → Value.okWide Tryz.prog W .any base t v := hval0
 have hW' := hW
 obtain ⟨p, q, hA0, hV, rfl, hfz, hnd⟩ := hW
 have hA : DataW.TrodAll enc Tryz.prog W 0 (fun _ => true) true Tryz.f7.params.toList args.toList ds p := hA0
 rw [par7] at hA hval
 obtain ⟨v1, v2, d1, d2, p1, p2, rfl, rfl, _, hd1, hd2⟩ := trodAll_two hA
 obtain ⟨rfl, rfl⟩ := trodVars_none hV
 obtain ⟨n1, hn1⟩ := hd1
 obtain ⟨n2, hn2⟩ := hd2
 obtain ⟨m, hm⟩ := cell_of_shapedOpen_int (g := 0) (t := 3) hsh (of_decide_eq_true (by kernel_rfl)) (zero := #[.int .i64 0]) (by kernel_rfl) rfl (by kernel_rfl) (by kernel_rfl) (k := .i64) (by kernel_rfl)
 have hL1 : laidMet Tryz.prog laid W := by rw [← MakeChecks.laidMetH_plain _ _ _ (by kernel_rfl)]; exact hL
 obtain ⟨a, ha, hs, hb⟩ := err_cell (g := 7) hL1.tail.tail.tail.tail (by kernel_rfl) (by kernel_rfl)
 simp only [List.append_nil] at hW'
 have hc := pow_cell (l := laid) (by kernel_rfl) (by simp [laid]) hL
 refine (textOnly_walk ⟨hm, hc, ha, hs, hb⟩ (Value.okWide_any_base (hval 0 34 v1 rfl rfl)) hn1 (Value.okWide_any_base (hval 1 34 v2 rfl rfl)) hn2).mono fun e W' ⟨he, hg⟩ => ?_
 subst he
 refine ⟨_, rfl, Ev.post_kept (pa := p) (pv := []) hW' (fun _ _ _ => ?_) (fun sp hs => ?_) (fun _ _ => rfl) (by simp) (hg.frame _)⟩
 · exact trodAll_cons_mk (shut_bool und4 _) trodAll_mk0
 · exact args_stay laidO rowed sized hg (fun t ht => by rw [par7] at ht; simp at ht; subst ht; exact in34) hA0 hs
theorem over : Rows.textOnlyRow.holds Tryz.pinned (OpenSpec.ofChange Rows.textOnlySpec) :=
 OpenClaim.holds_of_wide 7 Tryz.f7 rfl rfl rfl rfl rfl rfl rfl ⟨rfl, rfl, rfl, rfl, rfl⟩ rfl rfl rfl rfl rfl (by kernel_rfl) Tryz.func7 (by kernel_rfl)
   (of_decide_eq_true (by kernel_rfl)) (by unfold Func.isWrapper; first | (rw [if_pos (by decide +kernel)]; kernel_rfl) | (rw [if_neg (by decide +kernel)]; exact ⟨rfl, rfl⟩))
   (fun os started H enc _ => lifted os started H enc)
theorem proved : Rows.TextOnlyCardSaid :=
 Claim7.holds_tied_plain_at .later [] [.data, .data, .data, .data, .sentinel, .sentinel, .pinned] true (true, "6d6bac80cc39c6eb21109b11e5eb011e9a3ab37c4d2b49643f5eccf7f54ddda1") true
   over (fun _ h => by cases h) (by kernel_rfl) (fun _ h => by cases h) textOnly_row_tie rfl ⟨rfl, rfl⟩ (by kernel_rfl) rfl
   (fun f fn hf hfn => by
     obtain rfl : f = 7 := Option.some.inj ((show Tryz.prog.funcNamed "cloakroom/cloakroomlaw14.TextOnly" = some 7 by kernel_rfl).symm.trans hf) |>.symm
     obtain rfl : fn = Tryz.f7 := (Option.some.inj (Tryz.func7.symm.trans hfn)).symm
     exact ⟨by kernel_rfl, fun j t ht => by
       rw [par7] at ht
       match j, ht with
       | 0, ht => simp at ht; subst ht; exact stand34
       | 1, ht => simp at ht; subst ht; exact stand34
       | j + 2, ht => simp at ht⟩)
   (by kernel_rfl)
#print axioms proved
end Go.Proofs.YtilpiiafjehbnaaGreatDoor.textOnly
