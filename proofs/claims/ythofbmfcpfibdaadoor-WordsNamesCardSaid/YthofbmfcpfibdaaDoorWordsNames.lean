/-
  PROVED: the tied card of 'WordsNames': it returns true, and nothing that stood in memory turns. Conditions: the package variables that the row lists hold what the program's text lays (the card ties them); none of them is read on this road. The variable internal/bytealg.MaxLen may hold any number.
  How: the evaluator (EvA..EvU) runs the function's code by the kernel, once for a MaxLen below 2 and once for all others; its answer holds for every tape (EvT: 'callF_ok').
-/
import Derived.Test.YthofbmfcpfibdaaDoorRows
import Derived.WalkKit
import Derived.ProofKit
import Derived.OpenShut
import Derived.KernelRfl
import Derived.LaidMore
import Derived.Lay
import Derived.Stop.Joined
import Derived.SevenTiedAt
import Derived.Test.YthofbmfcpfibdaaDoorTie
import Derived.Test.YthofbmfcpfibdaaDoorCards
import Derived.Test.YthofbmfcpfibdaaDoorEvU
namespace Go.Proofs.YthofbmfcpfibdaaDoor.wordsNames
open Go.ChangeShapes Go.WideShapes Go.ChangeAt Go.WideMaps Go.WideElems Go.RowKit
set_option linter.unusedVariables false

theorem own : ownKnob Tryd.prog.godebug = none := by kernel_rfl

def masks : List Nat := [0,0,0,383,16781299,1215,4311752695,4295231475,4398047576079,11840159755534911,1074274335,2417851639299627093598239,39,89204341923590176321209194183517581051822067,1329230532324065960954913605489917939,31,15391,7,5,19,7,1,73245066595941551,199,11440979185133664387406296579253639856135340063,5,1237940039285381375490103743,137440002619,101218289428364493977104185500852357152742950873023135088627,19,4398046519293,4951760161790361815218143219,134221837,268443645,2097725,2658628471356996554050030416712204275,17594400636991,3,19,5,66483,51,138351151749653378483,5,1,2290630771,5,5,5,4456455,2097715,13,21,13,7,65551,19,19,0,5,19342813113979202331215859,2267743825679,243,66483,243,531911,524353,2097283,19,5,5,0,2214597117,8796126839539,16810611,19,8865785577709,281749925920893,0,19,5491,85,1037,0,702342826256273603086707106465568295829491,263111,0,21,13,2923003971560093291123168138537876760321514930163,20426010943356750102455122975,316912838952437276284744179709,19,0,151115727469970589747187,749019592093908130998168547243562859198691857383367,17247509535,5,16661,13,5,5,0,1107300861,5,3259264009699125022261772349,19,19,71,71,21,21,77,5,5,5,17188391667,0,0,0,0,0,0,0,0,0,0,0,0,0,0,0,0,0,0,0,0,0,0,0,0,0,0,0,0,0,0,0]

theorem gor : Ev.NoGor Tryd.prog := Ev.noGor_of (by kernel_rfl)
def outside : List (Nat × Ev.XK) := [(58, .index 0), (71, .idxByte), (78, .same), (83, .count), (86, .noZero 5), (93, .index 0), (102, .idxByte)]
theorem xok : Ev.XOK Tryd.prog outside := Ev.xok_index Tryd.func58 (by kernel_rfl) (by kernel_rfl) (by kernel_rfl) (by kernel_rfl) (Ev.xok_cons Tryd.func71 (by kernel_rfl) (by kernel_rfl) (by kernel_rfl) (Ev.xok_cons Tryd.func78 (by kernel_rfl) (by kernel_rfl) (by kernel_rfl) (Ev.xok_cons Tryd.func83 (by kernel_rfl) (by kernel_rfl) (by kernel_rfl) (Ev.xok_noZero (e := 5) (t := 29) (ps := #[3]) Tryd.func86 (by kernel_rfl) (by kernel_rfl) (by kernel_rfl) (by kernel_rfl) (by kernel_rfl) (Ev.xok_index Tryd.func93 (by kernel_rfl) (by kernel_rfl) (by kernel_rfl) (by kernel_rfl) (Ev.xok_cons Tryd.func102 (by kernel_rfl) (by kernel_rfl) (by kernel_rfl) (Ev.xok_nil)))))))
def gl (m : Int) : List (Nat × List Value) := [(0, [.int .i64 m])]
abbrev Ran (m : Int) : Prop := Ev.callF Tryd.prog (Ev.maskOf masks) outside 1 1000000 200 5 [] (Ev.heapOf (gl m) 1) Ev.isT = true
theorem ranN (k : Nat) : Ev.callF Tryd.prog (Ev.maskOf masks) outside 1 1000000 200 5 [] (Ev.heapOf (gl (.negSucc k)) 1) Ev.isT = true := by kernel_rfl
theorem ran0 : Ev.callF Tryd.prog (Ev.maskOf masks) outside 1 1000000 200 5 [] (Ev.heapOf (gl (.ofNat 0)) 1) Ev.isT = true := by kernel_rfl
theorem ran1 : Ev.callF Tryd.prog (Ev.maskOf masks) outside 1 1000000 200 5 [] (Ev.heapOf (gl (.ofNat 1)) 1) Ev.isT = true := by kernel_rfl
theorem ran2 (k : Nat) : Ev.callF Tryd.prog (Ev.maskOf masks) outside 1 1000000 200 5 [] (Ev.heapOf (gl (.ofNat (Nat.succ (Nat.succ k)))) 1) Ev.isT = true := by kernel_rfl
theorem ran (m : Int) : Ran m :=
  match m with
  | .negSucc k => ranN k
  | .ofNat 0 => ran0
  | .ofNat 1 => ran1
  | .ofNat (k + 2) => ran2 k

def laid : List (String × DataW Unit) := [("math/bits.deBruijn32tab", Rows.laid_math_bits_deBruijn32tab), ("math/bits.deBruijn64tab", Rows.laid_math_bits_deBruijn64tab), ("internal/strconv.uint64pow10", Rows.laid_internal_strconv_uint64pow10), ("unicode/utf8.acceptRanges", Rows.laid_unicode_utf8_acceptRanges), ("strconv.ErrRange", Rows.laid_strconv_ErrRange), ("strconv.ErrSyntax", Rows.laid_strconv_ErrSyntax), ("unicode/utf8.first", Rows.laid_unicode_utf8_first)]

theorem walk (w : World) {m : Int} (h0 : w.cell? ⟨0, 0, none⟩ = some (.int .i64 m)) : Calls Tryd.prog 5 #[] w fun e w' => e = .returned (.bool true) ∧ Below w.heap.size w w' :=
  Ev.calls_true_laid (gl := gl m) gor Tryd.checked.mixed xok Tryd.func5 (by kernel_rfl) (by kernel_rfl) (ran m) w (World.block_lt_of_cell? w _ h0) (fun p hp j v hv => by
    simp only [gl, List.mem_singleton] at hp
    subst hp
    match j, hv with
    | 0, hv => simp at hv; subst hv; exact h0
    | j + 1, hv => simp at hv)

set_option maxRecDepth 100000 in
theorem lifted (os : Os) (started : os.Started) (H : Type) (enc : TypeId × Value → H) :
    ReturnsInHanded {} Tryd.checked os 5 .any (fun w args => (Rows.wordsNamesSpec.pre enc Tryd.prog Tryd.f5 [] false w args ∧ laidMetH Tryd.prog laid w) ∧ sizedMet enc Tryd.prog Tryd.f5 (OpenSpec.ofChange Rows.wordsNamesSpec) false w args)
      (Rows.wordsNamesSpec.post enc Tryd.prog Tryd.f5 false true false false) := by
  refine Ev.returnsInHanded_and_shaped (C := Tryd.checked) (X := fun w _ => laidMetH Tryd.prog laid w) (fun _ _ _ hh h => h.of_heap hh) own started (by kernel_rfl) Tryd.func5
    (ChangeSpec.witness_shaped (enc := enc) (C := Tryd.checked) (os := os) (X := fun w _ => laidMetH Tryd.prog laid w) false (World.laidAll Tryd.prog os laid) #[] 8 (World.laidAll_os _ _ _)
      (World.shaped_of_ZipB (by kernel_rfl) (by kernel_rfl)) (by kernel_rfl) (by kernel_rfl) (by kernel_rfl)
      (by rw [MakeChecks.laidMetH_plain _ _ _ (by kernel_rfl)]; exact laidMet_laidAll _ (by kernel_rfl) (by kernel_rfl))) ?_
  intro W base args ds gs before hval0 hW _ hsh
  have hW' := hW
  obtain ⟨p, q, hA0, hV, rfl, hfz, hnd⟩ := hW
  have hA : DataW.TrodAll enc Tryd.prog W 0 (fun _ => true) true Tryd.f5.params.toList args.toList ds p := hA0
  rw [Tryd.params5] at hA
  obtain ⟨rfl, rfl, rfl⟩ := trodAll_none hA
  obtain ⟨rfl, rfl⟩ := trodVars_none hV
  obtain ⟨m, hm⟩ := cell_of_shapedOpen_int (g := 0) (t := 3) hsh (of_decide_eq_true (by kernel_rfl)) (zero := #[.int .i64 0]) (by kernel_rfl) rfl (by kernel_rfl) (by kernel_rfl) (k := .i64) (by kernel_rfl)
  clear hA0 hval0
  simp only [List.append_nil] at hW'
  refine (walk W hm).mono fun e W' ⟨he, hg⟩ => ?_
  subst he
  exact ⟨_, rfl, Ev.post_kept (pa := []) (pv := []) hW' (fun _ _ _ => (trodAll_cons_mk (shut_bool Tryd.underlying4 _) trodAll_mk0)) (fun sp _ => rfl) (fun _ _ => rfl) rfl
    (hg.frame _)⟩

theorem over : Rows.wordsNamesRow.holds Tryd.pinned (OpenSpec.ofChange Rows.wordsNamesSpec) :=
  OpenClaim.holds_of_wide 5 Tryd.f5 rfl rfl rfl rfl rfl rfl rfl ⟨rfl, rfl, rfl, rfl, rfl⟩ rfl rfl rfl rfl rfl (by kernel_rfl) Tryd.func5 (by kernel_rfl)
    (of_decide_eq_true (by kernel_rfl)) (by unfold Func.isWrapper; first | (rw [if_pos (by decide +kernel)]; kernel_rfl) | (rw [if_neg (by decide +kernel)]; exact ⟨rfl, rfl⟩))
    (fun os started H enc _ => lifted os started H enc)

/-- ████ THE STATEMENT: THE TIED CARD ████ -/
theorem proved : Rows.WordsNamesCardSaid :=
  Claim7.holds_tied_plain_at .later [] [.data, .data, .data, .data, .sentinel, .sentinel, .pinned] true (true, "1ee5e20da7a0baec73c4d59d735b0d74d28e7ffbf96f11f24f46e6af6d0c240a") true
    over (fun _ h => by cases h) (by kernel_rfl) (fun _ h => by cases h) wordsNames_row_tie rfl ⟨rfl, rfl⟩ (by kernel_rfl) rfl
    (fun f fn hf hfn => by
      obtain rfl : f = 5 := Option.some.inj ((show Tryd.prog.funcNamed "cloakroom/cloakroomlaw15.WordsNames" = some 5 by kernel_rfl).symm.trans hf) |>.symm
      obtain rfl : fn = Tryd.f5 := (Option.some.inj (Tryd.func5.symm.trans hfn)).symm
      exact ⟨by kernel_rfl, fun j t ht => by
        rw [Tryd.params5] at ht
        simp at ht⟩)
    (by kernel_rfl)
#print axioms proved
end Go.Proofs.YthofbmfcpfibdaaDoor.wordsNames
