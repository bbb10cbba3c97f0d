/-
  PROVED: the tied card of 'WordsOnly': it returns true for every row of bytes and every kind, and nothing that stood in memory turns. Conditions: the package variables that the row lists hold what the program's text lays (the card ties them); of them the powers of ten and strconv.ErrRange (a pointer that is not nil) are read. The variable internal/bytealg.MaxLen may hold any number.
  How: the evaluator (EvA..EvU) is right on the machine; what it makes of the code is printed (WdA, WuA) and checked by the kernel (WdB); the contracts of the functions are Wd.., Wx.., Wr.., Wt..; that what was read is what was written is WuB..WuE, WuK; the law is WuL, the arguments and the variables are opened in WuI and WuM.
-/
import Derived.Test.YthofbmfcpfibdaaDoorWuG
import Derived.Lay
import Derived.Stop.Joined
import Derived.SevenTiedAt
import Derived.Test.YthofbmfcpfibdaaDoorTie
import Derived.Test.YthofbmfcpfibdaaDoorCards
namespace Go.Proofs.YthofbmfcpfibdaaDoor.wordsOnly
open Go.ChangeShapes Go.WideShapes Go.ChangeAt Go.WideMaps Go.WideElems Go.RowKit Go.Ev
set_option linter.unusedVariables false

theorem own : ownKnob Tryd.prog.godebug = none := by kernel_rfl
theorem par7 : Tryd.f7.params = #[29, 5] := by kernel_rfl
theorem und4 : Tryd.prog.underlying 4 = some .bool := by kernel_rfl
theorem laidO : laidOutB Tryd.prog = true := by kernel_rfl
theorem rowed : mapsRowed Tryd.prog = true := by kernel_rfl
theorem sized : sizedB Tryd.prog = true := by kernel_rfl
theorem in29 : 29 < Tryd.prog.types.size := of_decide_eq_true (by kernel_rfl)
theorem in5 : 5 < Tryd.prog.types.size := of_decide_eq_true (by kernel_rfl)
theorem stand29 : Tryd.pinned.checked.prog.wantsStandIn 29 = false := by kernel_rfl
theorem stand5 : Tryd.pinned.checked.prog.wantsStandIn 5 = false := by kernel_rfl

def laid : List (String × DataW Unit) := [("math/bits.deBruijn32tab", Rows.laid_math_bits_deBruijn32tab), ("math/bits.deBruijn64tab", Rows.laid_math_bits_deBruijn64tab), ("internal/strconv.uint64pow10", Rows.laid_internal_strconv_uint64pow10), ("unicode/utf8.acceptRanges", Rows.laid_unicode_utf8_acceptRanges), ("strconv.ErrRange", Rows.laid_strconv_ErrRange), ("strconv.ErrSyntax", Rows.laid_strconv_ErrSyntax), ("unicode/utf8.first", Rows.laid_unicode_utf8_first)]

set_option maxRecDepth 100000 in
theorem lifted (os : Os) (started : os.Started) (H : Type) (enc : TypeId × Value → H) :
    ReturnsInHanded {} Tryd.checked os 7 .any (fun w args => (Rows.wordsOnlySpec.pre enc Tryd.prog Tryd.f7 [] false w args ∧ laidMetH Tryd.prog laid w) ∧ sizedMet enc Tryd.prog Tryd.f7 (OpenSpec.ofChange Rows.wordsOnlySpec) false w args)
      (Rows.wordsOnlySpec.post enc Tryd.prog Tryd.f7 false true false false) := by
  refine Ev.returnsInHanded_and_shaped (C := Tryd.checked) (X := fun w _ => laidMetH Tryd.prog laid w) (fun _ _ _ hh h => h.of_heap hh) own started (by kernel_rfl) Tryd.func7
    (ChangeSpec.witness_shaped (enc := enc) (C := Tryd.checked) (os := os) (X := fun w _ => laidMetH Tryd.prog laid w) false (World.laidAll Tryd.prog os laid) #[.slice none 0 0, .int .u8 0] 8 (World.laidAll_os _ _ _)
      (World.shaped_of_ZipB (by kernel_rfl) (by kernel_rfl)) (by kernel_rfl) (by kernel_rfl) (by kernel_rfl)
      (by rw [MakeChecks.laidMetH_plain _ _ _ (by kernel_rfl)]; exact laidMet_laidAll _ (by kernel_rfl) (by kernel_rfl))) ?_
  intro W base args ds gs before hval0 hW hL hsh
  have hval : ∀ (j : Nat) t v, Tryd.f7.params[j]? = some t → args[j]? = some v → Value.okWide Tryd.prog W .any base t v := hval0
  have hW' := hW
  obtain ⟨p, q, hA0, hV, rfl, hfz, hnd⟩ := hW
  have hA : DataW.TrodAll enc Tryd.prog W 0 (fun _ => true) true Tryd.f7.params.toList args.toList ds p := hA0
  rw [par7] at hA hval
  obtain ⟨v1, v2, d1, d2, p1, p2, rfl, rfl, _, hd1, hd2⟩ := trodAll_two hA
  obtain ⟨rfl, rfl⟩ := trodVars_none hV
  obtain ⟨n1, hn1⟩ := hd1
  obtain ⟨n2, hn2⟩ := hd2
  obtain ⟨m, hm⟩ := cell_of_shapedOpen_int (g := 0) (t := 3) hsh (of_decide_eq_true (by kernel_rfl)) (zero := #[.int .i64 0]) (by kernel_rfl) rfl (by kernel_rfl) (by kernel_rfl) (k := .i64) (by kernel_rfl)
  have hL1 : laidMet Tryd.prog laid W := by rw [← MakeChecks.laidMetH_plain _ _ _ (by kernel_rfl)]; exact hL
  obtain ⟨a, ha, hs, hb⟩ := err_cell (g := 5) hL1.tail.tail.tail.tail (by kernel_rfl) (by kernel_rfl)
  simp only [List.append_nil] at hW'
  have hc := pow_cell (l := laid) (by kernel_rfl) (by simp [laid]) hL
  refine (wordsOnly_walk hm hc ha hs hb (Value.okWide_any_base (hval 0 29 v1 rfl rfl)) hn1 (Value.okWide_any_base (hval 1 5 v2 rfl rfl)) hn2).mono fun e W' ⟨he, hg⟩ => ?_
  subst he
  refine ⟨_, rfl, Ev.post_kept (pa := p) (pv := []) hW' (fun _ _ _ => ?_) (fun sp hs => ?_) (fun _ _ => rfl) (by simp) (hg.frame _)⟩
  · exact trodAll_cons_mk (shut_bool und4 _) trodAll_mk0
  · exact args_stay laidO rowed sized hg (fun t ht => by rw [par7] at ht; simp at ht; rcases ht with rfl | rfl <;> first | exact in29 | exact in5) hA0 hs

theorem over : Rows.wordsOnlyRow.holds Tryd.pinned (OpenSpec.ofChange Rows.wordsOnlySpec) :=
  OpenClaim.holds_of_wide 7 Tryd.f7 rfl rfl rfl rfl rfl rfl rfl ⟨rfl, rfl, rfl, rfl, rfl⟩ rfl rfl rfl rfl rfl (by kernel_rfl) Tryd.func7 (by kernel_rfl)
    (of_decide_eq_true (by kernel_rfl)) (by unfold Func.isWrapper; first | (rw [if_pos (by decide +kernel)]; kernel_rfl) | (rw [if_neg (by decide +kernel)]; exact ⟨rfl, rfl⟩))
    (fun os started H enc _ => lifted os started H enc)

/-- ████ THE STATEMENT: THE TIED CARD ████ -/
theorem proved : Rows.WordsOnlyCardSaid :=
  Claim7.holds_tied_plain_at .later [] [.data, .data, .data, .data, .sentinel, .sentinel, .pinned] true (true, "1ee5e20da7a0baec73c4d59d735b0d74d28e7ffbf96f11f24f46e6af6d0c240a") true
    over (fun _ h => by cases h) (by kernel_rfl) (fun _ h => by cases h) wordsOnly_row_tie rfl ⟨rfl, rfl⟩ (by kernel_rfl) rfl
    (fun f fn hf hfn => by
      obtain rfl : f = 7 := Option.some.inj ((show Tryd.prog.funcNamed "cloakroom/cloakroomlaw15.WordsOnly" = some 7 by kernel_rfl).symm.trans hf) |>.symm
      obtain rfl : fn = Tryd.f7 := (Option.some.inj (Tryd.func7.symm.trans hfn)).symm
      exact ⟨by kernel_rfl, fun j t ht => by
        rw [par7] at ht
        match j, ht with
        | 0, ht => simp at ht; subst ht; exact stand29
        | 1, ht => simp at ht; subst ht; exact stand5
        | j + 2, ht => simp at ht⟩)
    (by kernel_rfl)
#print axioms proved
end Go.Proofs.YthofbmfcpfibdaaDoor.wordsOnly
