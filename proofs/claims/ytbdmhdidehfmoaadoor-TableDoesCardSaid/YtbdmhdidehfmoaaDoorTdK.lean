/-
  PROVED: the tied card of 'TableDoes': it returns true for every row of calls, and nothing that stood in memory turns. Condition: the package variable 'table.some' holds what the program's text lays (the card ties it).
  How: the evaluator (EvA..EvU) is right on the machine; what it makes of the code is printed (TbA) and checked by the kernel (TbB); the table's contracts are TbC..TsN; the document's rows, held beside the table's, are TdA..TdJ.
-/
import Derived.Test.YtbdmhdidehfmoaaDoorTdJ
import Derived.Test.YtbdmhdidehfmoaaDoorRows
import Derived.WalkKit
import Derived.ProofKit
import Derived.OpenShut
import Derived.KernelRfl
import Derived.LaidMore
import Derived.Stop.Joined
import Derived.SevenTiedAt
import Derived.Test.YtbdmhdidehfmoaaDoorTie
import Derived.Test.YtbdmhdidehfmoaaDoorCards
namespace Go.Proofs.YtbdmhdidehfmoaaDoor.tableDoes
open Go.ChangeShapes Go.WideShapes Go.ChangeAt Go.WideMaps Go.WideElems Go.RowKit Go.Ev
set_option linter.unusedVariables false

theorem own : ownKnob Tryd.prog.godebug = none := by kernel_rfl
theorem par5 : Tryd.f5.params = #[49] := by kernel_rfl
theorem und4 : Tryd.prog.underlying 4 = some .bool := by kernel_rfl
theorem laidO : laidOutB Tryd.prog = true := by kernel_rfl
theorem rowed : mapsRowed Tryd.prog = true := by kernel_rfl
theorem sized : sizedB Tryd.prog = true := by kernel_rfl
theorem in49 : 49 < Tryd.prog.types.size := of_decide_eq_true (by kernel_rfl)
theorem stand49 : Tryd.pinned.checked.prog.wantsStandIn 49 = false := by kernel_rfl

def laid : List (String × DataW Unit) := [("cloakroom/table.some", Rows.laid_cloakroom_table_some)]
theorem gSome : Tryd.prog.globalNamed "cloakroom/table.some" = some 0 := by kernel_rfl
theorem tSome : (Tryd.prog.globals[0]?).map (·.type) = some 27 := by kernel_rfl
def fTenant : Field := { name := "Tenant", type := 3, offset := 0, embedded := false, tag := "", pkgPath := "", byteOffset := 0 }
def fKey : Field := { name := "Key", type := 9, offset := 1, embedded := false, tag := "", pkgPath := "", byteOffset := 8 }
theorem u27 : Tryd.prog.underlying 27 = some (.struct #[fTenant, fKey]) := by kernel_rfl
theorem u3 : Tryd.prog.underlying 3 = some (.int .i64) := by kernel_rfl
theorem u9 : Tryd.prog.underlying 9 = some .string := by kernel_rfl
theorem c3 : Tryd.prog.cellsOf 3 = 1 := by kernel_rfl
theorem c9 : Tryd.prog.cellsOf 9 = 1 := by kernel_rfl

/-- The door's own heap meets the condition: three closed facts. -/
theorem door_met (os : Os) (args : Array Value) : laidMetH Tryd.prog laid ((World.doorLaid Tryd.prog 400 os).forCall (fun _ _ => 0) ⟨#[], args, []⟩).memory :=
  laidMetH_of_parts3 (fuel := 8) (laidMet_of_run' 8 (by kernel_rfl) (by kernel_rfl)) (by kernel_rfl) (by kernel_rfl)

/-- what the condition gives: the variable's two cells -/
theorem of_laid {W : World} (h : laidMetH Tryd.prog laid W) : W.cell? ⟨0, 0, none⟩ = some (.int .i64 0) ∧ W.cell? ⟨0, 1, none⟩ = some (.string kS) := by
  rw [MakeChecks.laidMetH_plain _ _ _ (by kernel_rfl)] at h
  obtain ⟨ps, ⟨g0, t0, cs0, f0, p0, q0, hg0, ht0, hv0, hd0, _, _⟩, _, _⟩ := h
  obtain rfl := Option.some.inj (gSome.symm.trans hg0)
  obtain rfl := Option.some.inj (tSome.symm.trans ht0)
  obtain ⟨y0, y1, n, hx, _, h0, h1⟩ := trod_struct2 u27 hd0
  have e0 : fTenant.type = 3 := rfl
  have e1 : fKey.type = 9 := rfl
  have o0 : fTenant.offset = 0 := rfl
  have o1 : fKey.offset = 1 := rfl
  rw [e0, o0, c3] at h0
  rw [e1, o1, c9] at h1
  obtain ⟨k, a1, a2, _⟩ := DataW.trod_int u3 h0
  obtain ⟨s, b1, b2, _⟩ := DataW.trod_string u9 h1
  simp only [Rows.laid_cloakroom_table_some, Prod.mk.injEq, DataW.agg.injEq, List.cons.injEq, and_true] at hx
  rw [a2, b2] at hx
  simp only [DataW.lit.injEq, Lit.int.injEq, Lit.string.injEq, true_and] at hx
  obtain ⟨⟨hk, hs⟩, _⟩ := hx
  have hs' : s = kS := ByteArray.ext (Array.ext' hs.symm)
  have w0 := World.var?_cell hg0 hv0 0
  have w1 := World.var?_cell hg0 hv0 1
  have g0 : cs0[0]? = some (.int .i64 k) := by
    have := congrArg (fun l => l[0]?) a1
    simpa using this
  have g1 : cs0[1]? = some (.string s) := by
    have := congrArg (fun l => l[0]?) b1
    simpa using this
  rw [w0, w1, g0, g1, ← hk, hs']
  exact ⟨rfl, rfl⟩


set_option maxRecDepth 100000 in
theorem lifted (os : Os) (started : os.Started) (H : Type) (enc : TypeId × Value → H) :
    ReturnsInHanded {} Tryd.checked os 5 .any (fun w args => (Rows.tableDoesSpec.pre enc Tryd.prog Tryd.f5 [] false w args ∧ laidMetH Tryd.prog laid w) ∧ sizedMet enc Tryd.prog Tryd.f5 (OpenSpec.ofChange Rows.tableDoesSpec) false w args)
      (Rows.tableDoesSpec.post enc Tryd.prog Tryd.f5 false true false false) := by
  refine returnsInHanded_of_change_and (C := Tryd.checked) (X := fun w _ => laidMetH Tryd.prog laid w) (fun _ _ _ hh h => h.of_heap hh) own started (by kernel_rfl) Tryd.func5
    (ChangeSpec.witness_shaped (enc := enc) (C := Tryd.checked) (os := os) (X := fun w _ => laidMetH Tryd.prog laid w) false (World.doorLaid Tryd.prog 400 os) #[.slice none 0 0] 8 rfl (World.shaped_of_RefB (by kernel_rfl) (by kernel_rfl)) (by kernel_rfl) (by kernel_rfl) (by kernel_rfl) (door_met os _)) ?_
  intro W base args ds gs before hval0 hW _ _ hL _
  have hval : ∀ (j : Nat) t v, Tryd.f5.params[j]? = some t → args[j]? = some v → Value.okWide Tryd.prog W .any base t v := hval0
  have hW' := hW
  obtain ⟨p, q, hA0, hV, rfl, hfz, hnd⟩ := hW
  have hA : DataW.TrodAll enc Tryd.prog W 0 (fun _ => true) true Tryd.f5.params.toList args.toList ds p := hA0
  rw [par5] at hA hval
  obtain ⟨v, d, rfl, rfl, hd⟩ := trodAll_one hA
  obtain ⟨rfl, rfl⟩ := trodVars_none hV
  obtain ⟨n, hn⟩ := hd
  obtain ⟨hc0, hc1⟩ := of_laid hL
  simp only [List.append_nil] at hW'
  refine (tableDoes_walk hc0 hc1 (Value.okWide_any_base (hval 0 49 v rfl rfl)) hn).mono fun e W' ⟨he, hg⟩ => ?_
  subst he
  refine ⟨_, rfl, Ev.post_kept (pa := p) (pv := []) hW' (fun _ _ _ => ?_) (fun sp hs => ?_) (fun _ _ => rfl) (by simp) (hg.frame _)⟩
  · exact trodAll_cons_mk (shut_bool und4 _) trodAll_mk0
  · exact args_stay laidO rowed sized hg (fun t ht => by rw [par5] at ht; simp at ht; subst ht; exact in49) hA0 hs

theorem over : Rows.tableDoesRow.holds Tryd.pinned (OpenSpec.ofChange Rows.tableDoesSpec) :=
  OpenClaim.holds_of_wide 5 Tryd.f5 rfl rfl rfl rfl rfl rfl rfl ⟨rfl, rfl, rfl, rfl, rfl⟩ rfl rfl rfl rfl rfl (by kernel_rfl) Tryd.func5 (by kernel_rfl)
    (of_decide_eq_true (by kernel_rfl)) (by unfold Func.isWrapper; first | (rw [if_pos (by decide +kernel)]; kernel_rfl) | (rw [if_neg (by decide +kernel)]; exact ⟨rfl, rfl⟩))
    (fun os started H enc _ => lifted os started H enc)

/-- ████ THE STATEMENT: THE TIED CARD ████ -/
theorem proved : Rows.TableDoesCardSaid :=
  Claim7.holds_tied_plain_at .later [] [.data] true (true, "922a28cde330a59291a666e4fbd504a3f546074d10fa3a0d663cdf7917f6652f") false
    over (fun _ h => by cases h) (by kernel_rfl) (fun _ h => by cases h) tableDoes_row_tie rfl ⟨rfl, rfl⟩ (by kernel_rfl) rfl
    (fun f fn hf hfn => by
      obtain rfl : f = 5 := Option.some.inj ((show Tryd.prog.funcNamed "cloakroom/cloakroomlaw06.TableDoes" = some 5 by kernel_rfl).symm.trans hf) |>.symm
      obtain rfl : fn = Tryd.f5 := (Option.some.inj (Tryd.func5.symm.trans hfn)).symm
      exact ⟨by kernel_rfl, fun j t ht => by
        rw [par5] at ht
        match j, ht with
        | 0, ht => simp at ht; subst ht; exact stand49
        | j + 1, ht => simp at ht⟩)
    (by kernel_rfl)
#print axioms proved
end Go.Proofs.YtbdmhdidehfmoaaDoor.tableDoes
