/-
  PROVED: the tied card of 'TextNames': it returns true, and nothing that stood in memory turns. Conditions: the package variables that the row lists hold what the program's text lays (the card ties them); none of them is read on this road. The variable internal/bytealg.MaxLen may hold any number.
  How: the evaluator (EvA..EvU) runs the function's code by the kernel, once for a MaxLen below 2 and once for all others; its answer holds for every tape (EvT: 'callF_ok').
-/
import Derived.Test.YtilpiiafjehbnaaGreatDoorRows
import Derived.WalkKit
import Derived.ProofKit
import Derived.OpenShut
import Derived.KernelRfl
import Derived.LaidMore
import Derived.Lay
import Derived.Stop.Joined
import Derived.SevenTiedAt
import Derived.Test.YtilpiiafjehbnaaGreatDoorTie
import Derived.Test.YtilpiiafjehbnaaGreatDoorCards
import Derived.Test.YtilpiiafjehbnaaGreatDoorEvU
namespace Go.Proofs.YtilpiiafjehbnaaGreatDoor.textNames
open Go.ChangeShapes Go.WideShapes Go.ChangeAt Go.WideMaps Go.WideElems Go.RowKit
set_option linter.unusedVariables false

theorem own : ownKnob Tryz.prog.godebug = none := by kernel_rfl

def masks : List Nat := [0, 0, 0, 1279, 268500989, 4836367361245187422683123, 551903305719, 37778950229199526330355, 983, 68720527869, 637, 7, 637, 17179882493, 31, 67126323, 537952287, 37927084532505679758335, 9241966977638203901, 1237944771451700950226436605, 604539002626618639253567, 2199023255567, 39, 19, 5, 19, 19495146362428025668124799, 138351151749653378483, 5, 101218289428364493977104185500852357152742950873023135088627, 144115188080050685, 168749647921724716085108979181559805, 15, 8590983311, 66483, 19, 5, 5, 5, 2097283, 51, 5, 19, 19, 19, 0, 5, 19342813113979202331215859, 19, 31, 525, 2097725, 44739261, 3288380080516023870551917159996933195852746326003, 243, 2097715, 1386653, 4503616001942519, 531911, 524353, 19, 5491, 0, 2214597117, 2267743825679, 63, 7, 1, 5, 115, 513, 1, 1, 1, 1, 0, 1, 3, 1, 1, 2475898968041195628073582607, 281749925920893, 19, 0, 0, 21, 13, 2923003971560093291123168138537876760321514930163, 20426010943356750102455122975, 8796126839539, 16810611, 19, 8589934835, 9007237909447711, 66483, 5, 16661, 13, 5, 5, 85, 1037, 0, 702342826256273603086707106465568295829491, 17181970547, 263111, 16785693, 21, 21, 316912838952437276284744179709, 19, 0, 151115727469970589747187, 8211, 65555, 66109, 4243, 32915, 262771, 67240563, 749019592093908130998168547243562859198691857383367, 17247509535, 0, 1107300861, 19, 19, 281518060864637, 5, 3259264009699125022261772349, 19, 19, 71, 71, 15663183516433892416764882583213662997805349754095402995, 5, 77, 5, 5, 19, 1037, 5, 17188391667, 0, 0, 0, 0, 0, 0, 0, 0, 0, 0, 0, 0, 0, 0, 0, 0, 0, 0, 0, 0, 0, 0, 0, 0, 0, 0, 0, 0, 0, 0, 0]

theorem gor : Ev.NoGor Tryz.prog := Ev.noGor_of (by kernel_rfl)
def outside : List (Nat × Ev.XK) := [(45, .index 0), (62, .idxByte), (83, .same), (84, .noZero 5), (102, .count), (111, .index 0), (122, .idxByte)]
theorem xok : Ev.XOK Tryz.prog outside := Ev.xok_index (g := 0) Tryz.func45 (by kernel_rfl) (by kernel_rfl) (by kernel_rfl) (by kernel_rfl) (Ev.xok_cons Tryz.func62 (by kernel_rfl) (by kernel_rfl) (by kernel_rfl) (Ev.xok_cons Tryz.func83 (by kernel_rfl) (by kernel_rfl) (by kernel_rfl) (Ev.xok_noZero (e := 5) (t := 34) (ps := #[3]) Tryz.func84 (by kernel_rfl) (by kernel_rfl) (by kernel_rfl) (by kernel_rfl) (by kernel_rfl) (Ev.xok_cons Tryz.func102 (by kernel_rfl) (by kernel_rfl) (by kernel_rfl) (Ev.xok_index (g := 0) Tryz.func111 (by kernel_rfl) (by kernel_rfl) (by kernel_rfl) (by kernel_rfl) (Ev.xok_cons Tryz.func122 (by kernel_rfl) (by kernel_rfl) (by kernel_rfl) (Ev.xok_nil)))))))
def tab0 : List Int := [1, 10, 100, 1000, 10000, 100000, 1000000, 10000000, 100000000, 1000000000, 10000000000, 100000000000, 1000000000000, 10000000000000, 100000000000000, 1000000000000000, 10000000000000000, 100000000000000000, 1000000000000000000, 10000000000000000000]
def gl (m : Int) : List (Nat × List Value) := [(1, tab0.map (Value.int .u64)), (0, [.int .i64 m])]
abbrev Ran (m : Int) : Prop := Ev.callF Tryz.prog (Ev.maskOf masks) outside 2 1000000 200 3 [] (Ev.heapOf (gl m) 2) Ev.isT = true
theorem ranN (k : Nat) : Ev.callF Tryz.prog (Ev.maskOf masks) outside 2 1000000 200 3 [] (Ev.heapOf (gl (.negSucc k)) 2) Ev.isT = true := by kernel_rfl
theorem ran0 : Ev.callF Tryz.prog (Ev.maskOf masks) outside 2 1000000 200 3 [] (Ev.heapOf (gl (.ofNat 0)) 2) Ev.isT = true := by kernel_rfl
theorem ran1 : Ev.callF Tryz.prog (Ev.maskOf masks) outside 2 1000000 200 3 [] (Ev.heapOf (gl (.ofNat 1)) 2) Ev.isT = true := by kernel_rfl
theorem ran2 (k : Nat) : Ev.callF Tryz.prog (Ev.maskOf masks) outside 2 1000000 200 3 [] (Ev.heapOf (gl (.ofNat (Nat.succ (Nat.succ k)))) 2) Ev.isT = true := by kernel_rfl
theorem ran (m : Int) : Ran m :=
  match m with
  | .negSucc k => ranN k
  | .ofNat 0 => ran0
  | .ofNat 1 => ran1
  | .ofNat (k + 2) => ran2 k

def laid : List (String × DataW Unit) := [("math/bits.deBruijn32tab", Rows.laid_math_bits_deBruijn32tab), ("math/bits.deBruijn64tab", Rows.laid_math_bits_deBruijn64tab), ("internal/strconv.uint64pow10", Rows.laid_internal_strconv_uint64pow10), ("unicode/utf8.acceptRanges", Rows.laid_unicode_utf8_acceptRanges), ("strconv.ErrRange", Rows.laid_strconv_ErrRange), ("strconv.ErrSyntax", Rows.laid_strconv_ErrSyntax), ("unicode/utf8.first", Rows.laid_unicode_utf8_first)]

theorem walk (w : World) (h0 : ∀ j v, (tab0.map (Value.int .u64))[j]? = some v → w.cell? ⟨1, j, none⟩ = some v) {m : Int} (hm : w.cell? ⟨0, 0, none⟩ = some (.int .i64 m)) : Calls Tryz.prog 3 #[] w fun e w' => e = .returned (.bool true) ∧ Below w.heap.size w w' :=
  Ev.calls_true_laid (gl := gl m) gor Tryz.checked.mixed xok Tryz.func3 (by kernel_rfl) (by kernel_rfl) (ran m) w (World.block_lt_of_cell? w _ (h0 0 _ rfl)) (fun p hp j v hv => by
    simp only [gl, List.mem_cons, List.not_mem_nil, or_false] at hp
    rcases hp with rfl | rfl
    · exact h0 j v hv
    · match j, hv with
      | 0, hv => simp at hv; subst hv; exact hm
      | j + 1, hv => simp at hv)


set_option maxRecDepth 100000 in
theorem lifted (os : Os) (started : os.Started) (H : Type) (enc : TypeId × Value → H) :
    ReturnsInHanded {} Tryz.checked os 3 .any (fun w args => (Rows.textNamesSpec.pre enc Tryz.prog Tryz.f3 [] false w args ∧ laidMetH Tryz.prog laid w) ∧ sizedMet enc Tryz.prog Tryz.f3 (OpenSpec.ofChange Rows.textNamesSpec) false w args)
      (Rows.textNamesSpec.post enc Tryz.prog Tryz.f3 false true false false) := by
  refine Ev.returnsInHanded_and_shaped (C := Tryz.checked) (X := fun w _ => laidMetH Tryz.prog laid w) (fun _ _ _ hh h => h.of_heap hh) own started (by kernel_rfl) Tryz.func3
    (ChangeSpec.witness_shaped (enc := enc) (C := Tryz.checked) (os := os) (X := fun w _ => laidMetH Tryz.prog laid w) false (World.laidAll Tryz.prog os laid) #[] 8 (World.laidAll_os _ _ _)
      (World.shaped_of_ZipB (by kernel_rfl) (by kernel_rfl)) (by kernel_rfl) (by kernel_rfl) (by kernel_rfl)
      (by rw [MakeChecks.laidMetH_plain _ _ _ (by kernel_rfl)]; exact laidMet_laidAll _ (by kernel_rfl) (by kernel_rfl))) ?_
  intro W base args ds gs before hval0 hW hL hsh
  have hW' := hW
  obtain ⟨p, q, hA0, hV, rfl, hfz, hnd⟩ := hW
  have hA : DataW.TrodAll enc Tryz.prog W 0 (fun _ => true) true Tryz.f3.params.toList args.toList ds p := hA0
  rw [Tryz.params3] at hA
  obtain ⟨rfl, rfl, rfl⟩ := trodAll_none hA
  obtain ⟨rfl, rfl⟩ := trodVars_none hV
  have hL0 := hL
  rw [MakeChecks.laidMetH_plain _ _ _ (by kernel_rfl)] at hL0
  have t0 := Ev.tab_cells (g := 1) (t := 122) (e := 24) (n := 20) hL0 (List.mem_of_getElem? (i := 2) (a := ("internal/strconv.uint64pow10", Lib.tabData .u64 tab0)) (by kernel_rfl)) (by kernel_rfl) (by kernel_rfl) (by kernel_rfl) (by kernel_rfl) (by kernel_rfl) (by kernel_rfl)
  obtain ⟨m, hm⟩ := cell_of_shapedOpen_int (g := 0) (t := 3) hsh (of_decide_eq_true (by kernel_rfl)) (zero := #[.int .i64 0]) (by kernel_rfl) rfl (by kernel_rfl) (by kernel_rfl) (k := .i64) (by kernel_rfl)
  clear hA0 hval0
  simp only [List.append_nil] at hW'
  refine (walk W t0 hm).mono fun e W' ⟨he, hg⟩ => ?_
  subst he
  exact ⟨_, rfl, Ev.post_kept (pa := []) (pv := []) hW' (fun _ _ _ => (trodAll_cons_mk (shut_bool Tryz.underlying4 _) trodAll_mk0)) (fun sp _ => rfl) (fun _ _ => rfl) rfl
    (hg.frame _)⟩

theorem over : Rows.textNamesRow.holds Tryz.pinned (OpenSpec.ofChange Rows.textNamesSpec) :=
  OpenClaim.holds_of_wide 3 Tryz.f3 rfl rfl rfl rfl rfl rfl rfl ⟨rfl, rfl, rfl, rfl, rfl⟩ rfl rfl rfl rfl rfl (by kernel_rfl) Tryz.func3 (by kernel_rfl)
    (of_decide_eq_true (by kernel_rfl)) (by unfold Func.isWrapper; first | (rw [if_pos (by decide +kernel)]; kernel_rfl) | (rw [if_neg (by decide +kernel)]; exact ⟨rfl, rfl⟩))
    (fun os started H enc _ => lifted os started H enc)

/-- ████ THE STATEMENT: THE TIED CARD ████ -/
theorem proved : Rows.TextNamesCardSaid :=
  Claim7.holds_tied_plain_at .later [] [.data, .data, .data, .data, .sentinel, .sentinel, .pinned] true (true, "6d6bac80cc39c6eb21109b11e5eb011e9a3ab37c4d2b49643f5eccf7f54ddda1") true
    over (fun _ h => by cases h) (by kernel_rfl) (fun _ h => by cases h) textNames_row_tie rfl ⟨rfl, rfl⟩ (by kernel_rfl) rfl
    (fun f fn hf hfn => by
      obtain rfl : f = 3 := Option.some.inj ((show Tryz.prog.funcNamed "cloakroom/cloakroomlaw14.TextNames" = some 3 by kernel_rfl).symm.trans hf) |>.symm
      obtain rfl : fn = Tryz.f3 := (Option.some.inj (Tryz.func3.symm.trans hfn)).symm
      exact ⟨by kernel_rfl, fun j t ht => by
        rw [Tryz.params3] at ht
        simp at ht⟩)
    (by kernel_rfl)
#print axioms proved
end Go.Proofs.YtilpiiafjehbnaaGreatDoor.textNames
