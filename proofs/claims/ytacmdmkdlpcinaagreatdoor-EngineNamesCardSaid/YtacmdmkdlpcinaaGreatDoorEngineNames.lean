/-
  PROVED: the tied card of 'EngineNames': it returns true, and nothing that stood in memory turns. Conditions: the package variables that the row lists hold what the program's text lays (the card ties them); none of them is read on this road. The variable internal/bytealg.MaxLen may hold any number.
  How: the evaluator (EvA..EvU) runs the function's code by the kernel, once for a MaxLen below 2 and once for all others; its answer holds for every tape (EvT: 'callF_ok').
-/
import Derived.Test.YtacmdmkdlpcinaaGreatDoorRows
import Derived.WalkKit
import Derived.ProofKit
import Derived.OpenShut
import Derived.KernelRfl
import Derived.LaidMore
import Derived.Lay
import Derived.Stop.Joined
import Derived.SevenTiedAt
import Derived.Test.YtacmdmkdlpcinaaGreatDoorTie
import Derived.Test.YtacmdmkdlpcinaaGreatDoorCards
import Derived.Test.YtacmdmkdlpcinaaGreatDoorEvU
namespace Go.Proofs.YtacmdmkdlpcinaaGreatDoor.engineNames
open Go.ChangeShapes Go.WideShapes Go.ChangeAt Go.WideMaps Go.WideElems Go.RowKit
set_option linter.unusedVariables false

theorem own : ownKnob Tryz.prog.godebug = none := by kernel_rfl

def masks : List Nat := [0, 0, 0, 1125899974662143, 20302217929944511474279741488911, 81129679518084548602114612330255, 1427248373603005792489282952754048558618902287, 11692013795589375324364635683669929485517924990735, 36893489315717840655, 16846791, 2254106215342075, 71, 31457629, 255855347, 8319, 19, 1073856507, 9481914684537747546591, 2361187745034517611519, 317531620076700040511629574655, 137456255039, 10213007685360813296231170015, 17594400636991, 45, 131087, 8439, 975, 77380992373361882750255231, 40564819207893636974912557547519, 40564820417409752083249208819451, 525331, 525, 525, 21, 1, 5, 31327, 1064371, 4257523, 16781139, 1427258592376824025408982223778767747734830071, 269887, 605016312624374960283635, 51, 524411, 132173, 285, 297144861738768936610602659791, 23, 17179877839, 356812093328059292122053475825398281790812127, 21, 19, 7, 39, 8759, 16785143, 2115535, 287, 525, 309485194329037277248077599, 47, 77371252455338466204466399, 1052595, 8590983311, 51, 8307, 18876359, 65587, 8796093022407, 8488230840680439, 19, 39, 604275, 5, 147, 19, 2611, 8279, 19, 63, 17389, 19, 9223372037391919055, 119, 2228727, 2171, 33851, 34863089403, 537952287, 8804683026191, 8567, 39, 66483, 5, 5, 5, 65551, 5, 21, 34863089367, 8392919, 18940407, 1386653, 4503616001942519, 2228727, 5, 8865785577709, 5, 1242775742581853194404380527, 42535296023574879666274036850519702559, 5, 16661, 51, 42535296023574879666274036850519702559, 19, 67831, 2210644195, 4101, 32827, 10385861445041135941798790903627805, 4198523, 315, 65659, 540545147, 5, 277, 27, 295147905181504570311, 19, 263111, 19, 263295, 17179886351, 8592039695, 35218731966215, 1333065575601045263, 33543, 21268317252094917911888073248812900111, 1217485249602318769183, 22997644815212700899627017342834150232570911, 17179886351, 8592039695, 35218731966215, 1333065575601045263, 33543, 21268317252094917911888073248812900111, 1217485249602318769183, 22997644815212700899627017342834150232570911, 0, 281998434238639, 5, 7, 65735, 7, 3, 59, 66483, 15, 65735, 5, 0, 3, 66483, 749019592093908130998168547243562859198691857383367, 17247509535, 5491, 1079407, 288231475663604767, 5, 5, 271, 4159, 288231475663604767, 271, 4159, 21, 1965, 3, 5, 3259264009699125022261772349, 19, 19, 71, 71, 21, 13, 2923003971560093291123168138537876760321514930163, 20426010943356750102455122975, 4197407, 4197407, 525, 77, 5, 5, 5, 13, 5, 5, 5, 21, 21, 17188391667, 0, 0, 0, 0, 0, 0, 0, 0, 0, 0, 0, 0, 0, 0, 0, 0, 0, 0, 0, 0, 0, 0, 0, 0, 0, 0, 0, 0]

theorem gor : Ev.NoGor Tryz.prog := Ev.noGor_of (by kernel_rfl)
def outside : List (Nat × Ev.XK) := [(149, .cmp)]
theorem xok : Ev.XOK Tryz.prog outside := Ev.xok_cons Tryz.func149 (by kernel_rfl) (by kernel_rfl) (by kernel_rfl) (Ev.xok_nil)
def tab0 : List Int := [0, 1, 28, 2, 29, 14, 24, 3, 30, 22, 20, 15, 25, 17, 4, 8, 31, 27, 13, 23, 21, 19, 16, 7, 26, 12, 18, 6, 11, 5, 10, 9]
def gl : List (Nat × List Value) := [(0, tab0.map (Value.int .u8))]
theorem ran : Ev.callF Tryz.prog (Ev.maskOf masks) outside 1 1000000 200 3 [] (Ev.heapOf (gl) 1) Ev.isT = true := by kernel_rfl

def laid : List (String × DataW Unit) := [("math/bits.deBruijn32tab", Rows.laid_math_bits_deBruijn32tab), ("math/bits.deBruijn64tab", Rows.laid_math_bits_deBruijn64tab), ("internal/strconv.uint64pow10", Rows.laid_internal_strconv_uint64pow10), ("strconv.ErrRange", Rows.laid_strconv_ErrRange), ("strconv.ErrSyntax", Rows.laid_strconv_ErrSyntax)]

theorem walk (w : World) (h0 : ∀ j v, (tab0.map (Value.int .u8))[j]? = some v → w.cell? ⟨0, j, none⟩ = some v) : Calls Tryz.prog 3 #[] w fun e w' => e = .returned (.bool true) ∧ Below w.heap.size w w' :=
  Ev.calls_true_laid (gl := gl) gor Tryz.checked.mixed xok Tryz.func3 (by kernel_rfl) (by kernel_rfl) (ran) w (World.block_lt_of_cell? w _ (h0 0 _ rfl)) (fun p hp j v hv => by
    simp only [gl, List.mem_cons, List.not_mem_nil, or_false] at hp
    rcases hp with rfl
    exact h0 j v hv)


set_option maxRecDepth 100000 in
theorem lifted (os : Os) (started : os.Started) (H : Type) (enc : TypeId × Value → H) :
    ReturnsInHanded {} Tryz.checked os 3 .any (fun w args => (Rows.engineNamesSpec.pre enc Tryz.prog Tryz.f3 [] false w args ∧ laidMetH Tryz.prog laid w) ∧ sizedMet enc Tryz.prog Tryz.f3 (OpenSpec.ofChange Rows.engineNamesSpec) false w args)
      (Rows.engineNamesSpec.post enc Tryz.prog Tryz.f3 false true false false) := by
  refine Ev.returnsInHanded_and_shaped (C := Tryz.checked) (X := fun w _ => laidMetH Tryz.prog laid w) (fun _ _ _ hh h => h.of_heap hh) own started (by kernel_rfl) Tryz.func3
    (ChangeSpec.witness_shaped (enc := enc) (C := Tryz.checked) (os := os) (X := fun w _ => laidMetH Tryz.prog laid w) false (World.laidAll Tryz.prog os laid) #[] 8 (World.laidAll_os _ _ _)
      (World.shaped_of_ZipB (by kernel_rfl) (by kernel_rfl)) (by kernel_rfl) (by kernel_rfl) (by kernel_rfl)
      (by rw [MakeChecks.laidMetH_plain _ _ _ (by kernel_rfl)]; exact laidMet_laidAll _ (by kernel_rfl) (by kernel_rfl))) ?_
  intro W base args ds gs before hval0 hW hL hsh
  have hW' := hW
  obtain ⟨p, q, hA0, hV, rfl, hfz, hnd⟩ := hW
  have hA : DataW.TrodAll enc Tryz.prog W 0 (fun _ => true) true Tryz.f3.params.toList args.toList ds p := hA0
  rw [Tryz.params3] at hA
  obtain ⟨rfl, rfl, rfl⟩ := trodAll_none hA
  obtain ⟨rfl, rfl⟩ := trodVars_none hV
  have hL0 := hL
  rw [MakeChecks.laidMetH_plain _ _ _ (by kernel_rfl)] at hL0
  have t0 := Ev.tab_cells (g := 0) (t := 211) (e := 5) (n := 32) hL0 (List.mem_of_getElem? (i := 0) (a := ("math/bits.deBruijn32tab", Lib.tabData .u8 tab0)) (by kernel_rfl)) (by kernel_rfl) (by kernel_rfl) (by kernel_rfl) (by kernel_rfl) (by kernel_rfl) (by kernel_rfl)
  clear hA0 hval0
  simp only [List.append_nil] at hW'
  refine (walk W t0).mono fun e W' ⟨he, hg⟩ => ?_
  subst he
  exact ⟨_, rfl, Ev.post_kept (pa := []) (pv := []) hW' (fun _ _ _ => (trodAll_cons_mk (shut_bool Tryz.underlying4 _) trodAll_mk0)) (fun sp _ => rfl) (fun _ _ => rfl) rfl
    (hg.frame _)⟩

theorem over : Rows.engineNamesRow.holds Tryz.pinned (OpenSpec.ofChange Rows.engineNamesSpec) :=
  OpenClaim.holds_of_wide 3 Tryz.f3 rfl rfl rfl rfl rfl rfl rfl ⟨rfl, rfl, rfl, rfl, rfl⟩ rfl rfl rfl rfl rfl (by kernel_rfl) Tryz.func3 (by kernel_rfl)
    (of_decide_eq_true (by kernel_rfl)) (by unfold Func.isWrapper; first | (rw [if_pos (by decide +kernel)]; kernel_rfl) | (rw [if_neg (by decide +kernel)]; exact ⟨rfl, rfl⟩))
    (fun os started H enc _ => lifted os started H enc)

/-- ████ THE STATEMENT: THE TIED CARD ████ -/
theorem proved : Rows.EngineNamesCardSaid :=
  Claim7.holds_tied_plain_at .later [] [.data, .data, .data, .sentinel, .sentinel] true (true, "ba662d7298a8d5b53ee8c81b6071caadf7fe01038ba6ba94fdfc3f9f696693ef") true
    over (fun _ h => by cases h) (by kernel_rfl) (fun _ h => by cases h) engineNames_row_tie rfl ⟨rfl, rfl⟩ (by kernel_rfl) rfl
    (fun f fn hf hfn => by
      obtain rfl : f = 3 := Option.some.inj ((show Tryz.prog.funcNamed "cloakroom/cloakroomlaw11.EngineNames" = some 3 by kernel_rfl).symm.trans hf) |>.symm
      obtain rfl : fn = Tryz.f3 := (Option.some.inj (Tryz.func3.symm.trans hfn)).symm
      exact ⟨by kernel_rfl, fun j t ht => by
        rw [Tryz.params3] at ht
        simp at ht⟩)
    (by kernel_rfl)
#print axioms proved
end Go.Proofs.YtacmdmkdlpcinaaGreatDoor.engineNames
