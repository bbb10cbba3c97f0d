/-
  PROVED: the tied card of 'ClientNames': it returns true, and nothing that stood in memory turns. Conditions: the package variables that the row lists hold what the program's text lays (the card ties them); none of them is read on this road. The variable internal/bytealg.MaxLen may hold any number.
  How: the evaluator (EvA..EvU) runs the function's code by the kernel, once for a MaxLen below 2 and once for all others; its answer holds for every tape (EvT: 'callF_ok').
-/
import Derived.Test.YtmcgccephidekaaGreatDoorRRows
import Derived.WalkKit
import Derived.ProofKit
import Derived.OpenShut
import Derived.KernelRfl
import Derived.LaidMore
import Derived.Lay
import Derived.Stop.Joined
import Derived.SevenTiedAt
import Derived.Test.YtmcgccephidekaaGreatDoorRTie
import Derived.Test.YtmcgccephidekaaGreatDoorRCards
import Derived.Test.YtmcgccephidekaaGreatDoorREvU
namespace Go.Proofs.YtmcgccephidekaaGreatDoorR.clientNames
open Go.ChangeShapes Go.WideShapes Go.ChangeAt Go.WideMaps Go.WideElems Go.RowKit
set_option linter.unusedVariables false

theorem own : ownKnob Tryz.prog.godebug = none := by kernel_rfl

def masks : List Nat := [0,0,0,39614081257132731746725527503,156366759,11692013098987547250925285441598210839237867126735,5444517870735634465713866688198462128095,4087,281475530358799,9007199388958751,39614090720312028280928673783,67126323,31,253,153513813188610680299519,5,4414154766279,140279,537952287,2417851639299627093598239,31,11840159755534911,8223,23,37927084532505679758335,9007215629303839,19,125829167,15,89204341923590176321209194183517581051822067,2175,15,1157143631438807999,31,67126323,138167031,95,525,21,137440002619,17594400636991,5,19,7,1,73245066595941551,199,2199023255567,39,19,5,19,19495146362428025668124799,138351151749653378483,5,7,23,15,66483,21,7,287,101218289428364493977104185500852357152742950873023135088627,19,4398046519293,4951760161790361815218143219,8759,23,15,66483,15,18451247673874071455,33571891,31,5,7,65551,19,5,51,5,1,2290630771,5,15,8590983311,66483,5,5,5,2097283,19,5,21,19,19,0,5,19342813113979202331215859,2267743825679,243,66483,537399539,65735,604539002626618639253567,5,531911,524353,1386653,4503616001942519,19,5491,0,2214597117,8796126839539,16810611,19,8865785577709,0,19,0,21,13,2923003971560093291123168138537876760321514930163,20426010943356750102455122975,85,1037,0,702342826256273603086707106465568295829491,263111,5,16661,13,5,5,316912838952437276284744179709,19,0,151115727469970589747187,749019592093908130998168547243562859198691857383367,17247509535,21,21,0,1107300861,5,3259264009699125022261772349,19,19,71,71,77,5,5,5,17188391667,0,0,0,0,0,0,0,0,0,0,0,0,0,0,0,0,0,0,0,0,0,0,0,0,0,0,0,0,0,0,0]

theorem gor : Ev.NoGor Tryz.prog := Ev.noGor_of (by kernel_rfl)
def outside : List (Nat × Ev.XK) := [(96, .index 0), (112, .idxByte), (118, .same), (120, .noZero 5), (127, .count), (137, .index 0), (143, .idxByte)]
theorem xok : Ev.XOK Tryz.prog outside := Ev.xok_index Tryz.func96 (by kernel_rfl) (by kernel_rfl) (by kernel_rfl) (by kernel_rfl) (Ev.xok_cons Tryz.func112 (by kernel_rfl) (by kernel_rfl) (by kernel_rfl) (Ev.xok_cons Tryz.func118 (by kernel_rfl) (by kernel_rfl) (by kernel_rfl) (Ev.xok_noZero (e := 5) (t := 25) (ps := #[3]) Tryz.func120 (by kernel_rfl) (by kernel_rfl) (by kernel_rfl) (by kernel_rfl) (by kernel_rfl) (Ev.xok_cons Tryz.func127 (by kernel_rfl) (by kernel_rfl) (by kernel_rfl) (Ev.xok_index Tryz.func137 (by kernel_rfl) (by kernel_rfl) (by kernel_rfl) (by kernel_rfl) (Ev.xok_cons Tryz.func143 (by kernel_rfl) (by kernel_rfl) (by kernel_rfl) (Ev.xok_nil)))))))
def gl (m : Int) : List (Nat × List Value) := [(0, [.int .i64 m])]
abbrev Ran (m : Int) : Prop := Ev.callF Tryz.prog (Ev.maskOf masks) outside 1 1000000 200 4 [] (Ev.heapOf (gl m) 1) Ev.isT = true
theorem ranN (k : Nat) : Ev.callF Tryz.prog (Ev.maskOf masks) outside 1 1000000 200 4 [] (Ev.heapOf (gl (.negSucc k)) 1) Ev.isT = true := by kernel_rfl
theorem ran0 : Ev.callF Tryz.prog (Ev.maskOf masks) outside 1 1000000 200 4 [] (Ev.heapOf (gl (.ofNat 0)) 1) Ev.isT = true := by kernel_rfl
theorem ran1 : Ev.callF Tryz.prog (Ev.maskOf masks) outside 1 1000000 200 4 [] (Ev.heapOf (gl (.ofNat 1)) 1) Ev.isT = true := by kernel_rfl
theorem ran2 (k : Nat) : Ev.callF Tryz.prog (Ev.maskOf masks) outside 1 1000000 200 4 [] (Ev.heapOf (gl (.ofNat (Nat.succ (Nat.succ k)))) 1) Ev.isT = true := by kernel_rfl
theorem ran (m : Int) : Ran m :=
  match m with
  | .negSucc k => ranN k
  | .ofNat 0 => ran0
  | .ofNat 1 => ran1
  | .ofNat (k + 2) => ran2 k

def laid : List (String × DataW Unit) := [("math/bits.deBruijn32tab", Rows.laid_math_bits_deBruijn32tab), ("math/bits.deBruijn64tab", Rows.laid_math_bits_deBruijn64tab), ("internal/strconv.uint64pow10", Rows.laid_internal_strconv_uint64pow10), ("unicode/utf8.acceptRanges", Rows.laid_unicode_utf8_acceptRanges), ("strconv.ErrRange", Rows.laid_strconv_ErrRange), ("strconv.ErrSyntax", Rows.laid_strconv_ErrSyntax), ("unicode/utf8.first", Rows.laid_unicode_utf8_first)]

theorem walk (w : World) {m : Int} (h0 : w.cell? ⟨0, 0, none⟩ = some (.int .i64 m)) : Calls Tryz.prog 4 #[] w fun e w' => e = .returned (.bool true) ∧ Below w.heap.size w w' :=
  Ev.calls_true_laid (gl := gl m) gor Tryz.checked.mixed xok Tryz.func4 (by kernel_rfl) (by kernel_rfl) (ran m) w (World.block_lt_of_cell? w _ h0) (fun p hp j v hv => by
    simp only [gl, List.mem_singleton] at hp
    subst hp
    match j, hv with
    | 0, hv => simp at hv; subst hv; exact h0
    | j + 1, hv => simp at hv)

set_option maxRecDepth 100000 in
theorem lifted (os : Os) (started : os.Started) (H : Type) (enc : TypeId × Value → H) :
    ReturnsInHanded {} Tryz.checked os 4 .any (fun w args => (Rows.clientNamesSpec.pre enc Tryz.prog Tryz.f4 [] false w args ∧ laidMetH Tryz.prog laid w) ∧ sizedMet enc Tryz.prog Tryz.f4 (OpenSpec.ofChange Rows.clientNamesSpec) false w args)
      (Rows.clientNamesSpec.post enc Tryz.prog Tryz.f4 false true false false) := by
  refine Ev.returnsInHanded_and_shaped (C := Tryz.checked) (X := fun w _ => laidMetH Tryz.prog laid w) (fun _ _ _ hh h => h.of_heap hh) own started (by kernel_rfl) Tryz.func4
    (ChangeSpec.witness_shaped (enc := enc) (C := Tryz.checked) (os := os) (X := fun w _ => laidMetH Tryz.prog laid w) false (World.laidAll Tryz.prog os laid) #[] 8 (World.laidAll_os _ _ _)
      (World.shaped_of_ZipB (by kernel_rfl) (by kernel_rfl)) (by kernel_rfl) (by kernel_rfl) (by kernel_rfl)
      (by rw [MakeChecks.laidMetH_plain _ _ _ (by kernel_rfl)]; exact laidMet_laidAll _ (by kernel_rfl) (by kernel_rfl))) ?_
  intro W base args ds gs before hval0 hW _ hsh
  have hW' := hW
  obtain ⟨p, q, hA0, hV, rfl, hfz, hnd⟩ := hW
  have hA : DataW.TrodAll enc Tryz.prog W 0 (fun _ => true) true Tryz.f4.params.toList args.toList ds p := hA0
  rw [Tryz.params4] at hA
  obtain ⟨rfl, rfl, rfl⟩ := trodAll_none hA
  obtain ⟨rfl, rfl⟩ := trodVars_none hV
  obtain ⟨m, hm⟩ := cell_of_shapedOpen_int (g := 0) (t := 3) hsh (of_decide_eq_true (by kernel_rfl)) (zero := #[.int .i64 0]) (by kernel_rfl) rfl (by kernel_rfl) (by kernel_rfl) (k := .i64) (by kernel_rfl)
  clear hA0 hval0
  simp only [List.append_nil] at hW'
  refine (walk W hm).mono fun e W' ⟨he, hg⟩ => ?_
  subst he
  exact ⟨_, rfl, Ev.post_kept (pa := []) (pv := []) hW' (fun _ _ _ => (trodAll_cons_mk (shut_bool Tryz.underlying4 _) trodAll_mk0)) (fun sp _ => rfl) (fun _ _ => rfl) rfl
    (hg.frame _)⟩

theorem over : Rows.clientNamesRow.holds Tryz.pinned (OpenSpec.ofChange Rows.clientNamesSpec) :=
  OpenClaim.holds_of_wide 4 Tryz.f4 rfl rfl rfl rfl rfl rfl rfl ⟨rfl, rfl, rfl, rfl, rfl⟩ rfl rfl rfl rfl rfl (by kernel_rfl) Tryz.func4 (by kernel_rfl)
    (of_decide_eq_true (by kernel_rfl)) (by unfold Func.isWrapper; first | (rw [if_pos (by decide +kernel)]; kernel_rfl) | (rw [if_neg (by decide +kernel)]; exact ⟨rfl, rfl⟩))
    (fun os started H enc _ => lifted os started H enc)

/-- ████ THE STATEMENT: THE TIED CARD ████ -/
theorem proved : Rows.ClientNamesCardSaid :=
  Claim7.holds_tied_plain_at .later [] [.data, .data, .data, .data, .sentinel, .sentinel, .pinned] true (true, "1d4a343725a80517a6288de59b8be02bc607929f32f256a1bd44460cf7f44b32") true
    over (fun _ h => by cases h) (by kernel_rfl) (fun _ h => by cases h) clientNames_row_tie rfl ⟨rfl, rfl⟩ (by kernel_rfl) rfl
    (fun f fn hf hfn => by
      obtain rfl : f = 4 := Option.some.inj ((show Tryz.prog.funcNamed "cloakroom/cloakroomlaw31.ClientNames" = some 4 by kernel_rfl).symm.trans hf) |>.symm
      obtain rfl : fn = Tryz.f4 := (Option.some.inj (Tryz.func4.symm.trans hfn)).symm
      exact ⟨by kernel_rfl, fun j t ht => by
        rw [Tryz.params4] at ht
        simp at ht⟩)
    (by kernel_rfl)
#print axioms proved
end Go.Proofs.YtmcgccephidekaaGreatDoorR.clientNames
