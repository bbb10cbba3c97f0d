/-
  PROVED: the tied card of 'TableNames': it returns true, and nothing that stood in memory turns. Condition: the package variable 'table.some' holds what the program's text lays (the card ties it).
  How: the evaluator (EvA..EvU) runs the function's code by the kernel; its answer holds for every tape (EvT: 'callF_ok').
-/
import Derived.Test.YtbdmhdidehfmoaaDoorRows
import Derived.WalkKit
import Derived.ProofKit
import Derived.OpenShut
import Derived.KernelRfl
import Derived.LaidMore
import Derived.Stop.Joined
import Derived.SevenTiedAt
import Derived.Test.YtbdmhdidehfmoaaDoorTie
import Derived.Test.YtbdmhdidehfmoaaDoorCards
import Derived.Test.YtbdmhdidehfmoaaDoorEvU
namespace Go.Proofs.YtbdmhdidehfmoaaDoor.tableNames
open Go.ChangeShapes Go.WideShapes Go.ChangeAt Go.WideMaps Go.WideElems Go.RowKit
set_option linter.unusedVariables false      -- a walk need not use every 'w<i>' (that an integer argument fits its kind)

theorem own : ownKnob Tryd.prog.godebug = none := by kernel_rfl

def masks : List Nat := [0, 0, 0, 11874700803313586215476161921236043312114073337853, 5586943, 84180224902860762419187810301, 89202982123350657949004689704837523664011251, 5119, 1, 5, 2171, 34863089367, 541, 34863089403, 541, 19, 8375437953725, 33571891, 144115188130381815, 543, 31, 32827, 10385861445041135941798790903627805, 4198523, 540545147, 27, 19, 31, 17389, 604275, 19, 526847, 2102271, 8589944799, 3, 59, 66483, 15, 65735, 42535296023574879666274036850519702559, 5, 5, 19, 7, 2097279, 1965, 17179886351, 8592039695, 35218731966215, 1333065575601045263, 33543, 21268317252094917911888073248812900111, 1217485249602318769183, 22997644815212700899627017342834150232570911, 277, 16661, 0, 5, 5, 288231475663604767, 5, 5, 271, 4159, 4197407, 0, 0, 0, 0, 0, 0, 0, 0, 0, 0, 0, 0, 0, 0, 0, 0, 0, 0, 0, 0, 0]

theorem gor : Ev.NoGor Tryd.prog := Ev.noGor_of (by kernel_rfl)
def outside : List (Nat × Ev.XK) := [(56, .cmp)]
theorem xok : Ev.XOK Tryd.prog outside := Ev.xok_cons Tryd.func56 (by kernel_rfl) (by kernel_rfl) (by kernel_rfl) (Ev.xok_nil)
def kS : ByteArray := ⟨#[107]⟩
def gl : List (Nat × List Value) := [(0, [.int .i64 0, .string kS])]
theorem ran : Ev.callF Tryd.prog (Ev.maskOf masks) outside 1 1000000 200 4 [] (Ev.heapOf gl 1) Ev.isT = true := by kernel_rfl

def laid : List (String × DataW Unit) := [("cloakroom/table.some", Rows.laid_cloakroom_table_some)]
theorem gSome : Tryd.prog.globalNamed "cloakroom/table.some" = some 0 := by kernel_rfl
theorem tSome : (Tryd.prog.globals[0]?).map (·.type) = some 27 := by kernel_rfl
def fTenant : Field := { name := "Tenant", type := 3, offset := 0, embedded := false, tag := "", pkgPath := "", byteOffset := 0 }
def fKey : Field := { name := "Key", type := 9, offset := 1, embedded := false, tag := "", pkgPath := "", byteOffset := 8 }
theorem u27 : Tryd.prog.underlying 27 = some (.struct #[fTenant, fKey]) := by kernel_rfl
theorem u3 : Tryd.prog.underlying 3 = some (.int .i64) := by kernel_rfl
theorem u9 : Tryd.prog.underlying 9 = some .string := by kernel_rfl
theorem c3 : Tryd.prog.cellsOf 3 = 1 := by kernel_rfl
theorem c9 : Tryd.prog.cellsOf 9 = 1 := by kernel_rfl

/-- The door's own heap meets the condition: three closed facts. -/
theorem door_met (os : Os) (args : Array Value) : laidMetH Tryd.prog laid ((World.doorLaid Tryd.prog 400 os).forCall (fun _ _ => 0) ⟨#[], args, []⟩).memory :=
  laidMetH_of_parts3 (fuel := 8) (laidMet_of_run' 8 (by kernel_rfl) (by kernel_rfl)) (by kernel_rfl) (by kernel_rfl)

/-- what the condition gives: the variable's two cells -/
theorem of_laid {W : World} (h : laidMetH Tryd.prog laid W) : W.cell? ⟨0, 0, none⟩ = some (.int .i64 0) ∧ W.cell? ⟨0, 1, none⟩ = some (.string kS) := by
  rw [MakeChecks.laidMetH_plain _ _ _ (by kernel_rfl)] at h
  obtain ⟨ps, ⟨g0, t0, cs0, f0, p0, q0, hg0, ht0, hv0, hd0, _, _⟩, _, _⟩ := h
  obtain rfl := Option.some.inj (gSome.symm.trans hg0)
  obtain rfl := Option.some.inj (tSome.symm.trans ht0)
  obtain ⟨y0, y1, n, hx, _, h0, h1⟩ := trod_struct2 u27 hd0
  have e0 : fTenant.type = 3 := rfl
  have e1 : fKey.type = 9 := rfl
  have o0 : fTenant.offset = 0 := rfl
  have o1 : fKey.offset = 1 := rfl
  rw [e0, o0, c3] at h0
  rw [e1, o1, c9] at h1
  obtain ⟨k, a1, a2, _⟩ := DataW.trod_int u3 h0
  obtain ⟨s, b1, b2, _⟩ := DataW.trod_string u9 h1
  simp only [Rows.laid_cloakroom_table_some, Prod.mk.injEq, DataW.agg.injEq, List.cons.injEq, and_true] at hx
  rw [a2, b2] at hx
  simp only [DataW.lit.injEq, Lit.int.injEq, Lit.string.injEq, true_and] at hx
  obtain ⟨⟨hk, hs⟩, _⟩ := hx
  have hs' : s = kS := ByteArray.ext (Array.ext' hs.symm)
  have w0 := World.var?_cell hg0 hv0 0
  have w1 := World.var?_cell hg0 hv0 1
  have g0 : cs0[0]? = some (.int .i64 k) := by
    have := congrArg (fun l => l[0]?) a1
    simpa using this
  have g1 : cs0[1]? = some (.string s) := by
    have := congrArg (fun l => l[0]?) b1
    simpa using this
  rw [w0, w1, g0, g1, ← hk, hs']
  exact ⟨rfl, rfl⟩

theorem walk (w : World) (h0 : w.cell? ⟨0, 0, none⟩ = some (.int .i64 0)) (h1 : w.cell? ⟨0, 1, none⟩ = some (.string kS)) : Calls Tryd.prog 4 #[] w fun e w' => e = .returned (.bool true) ∧ Below w.heap.size w w' :=
  Ev.calls_true_laid (gl := gl) gor Tryd.checked.mixed xok Tryd.func4 (by kernel_rfl) (by kernel_rfl) ran w (World.block_lt_of_cell? w _ h0) (fun p hp j v hv => by
    simp only [gl, List.mem_singleton] at hp
    subst hp
    match j, hv with
    | 0, hv => simp at hv; subst hv; exact h0
    | 1, hv => simp at hv; subst hv; exact h1
    | j + 2, hv => simp at hv)

set_option maxRecDepth 100000 in
theorem lifted (os : Os) (started : os.Started) (H : Type) (enc : TypeId × Value → H) :
    ReturnsInHanded {} Tryd.checked os 4 .any (fun w args => (Rows.tableNamesSpec.pre enc Tryd.prog Tryd.f4 [] false w args ∧ laidMetH Tryd.prog laid w) ∧ sizedMet enc Tryd.prog Tryd.f4 (OpenSpec.ofChange Rows.tableNamesSpec) false w args)
      (Rows.tableNamesSpec.post enc Tryd.prog Tryd.f4 false true false false) := by
  refine returnsInHanded_of_change_and (C := Tryd.checked) (X := fun w _ => laidMetH Tryd.prog laid w) (fun _ _ _ hh h => h.of_heap hh) own started (by kernel_rfl) Tryd.func4
    (ChangeSpec.witness_shaped (enc := enc) (C := Tryd.checked) (os := os) (X := fun w _ => laidMetH Tryd.prog laid w) false (World.doorLaid Tryd.prog 400 os) #[] 8 rfl (World.shaped_of_RefB (by kernel_rfl) (by kernel_rfl)) (by kernel_rfl) (by kernel_rfl) (by kernel_rfl) (door_met os _)) ?_
  intro W base args ds gs before hval0 hW _ _ hL _
  have hW' := hW
  obtain ⟨p, q, hA0, hV, rfl, hfz, hnd⟩ := hW
  have hA : DataW.TrodAll enc Tryd.prog W 0 (fun _ => true) true Tryd.f4.params.toList args.toList ds p := hA0
  rw [Tryd.params4] at hA
  obtain ⟨rfl, rfl, rfl⟩ := trodAll_none hA
  obtain ⟨rfl, rfl⟩ := trodVars_none hV
  obtain ⟨hc0, hc1⟩ := of_laid hL
  clear hA0 hval0
  simp only [List.append_nil] at hW'
  refine (walk W hc0 hc1).mono fun e W' ⟨he, hg⟩ => ?_
  subst he
  exact ⟨_, rfl, Ev.post_kept (pa := []) (pv := []) hW' (fun _ _ _ => (trodAll_cons_mk (shut_bool Tryd.underlying4 _) trodAll_mk0)) (fun sp _ => rfl) (fun _ _ => rfl) rfl
    (hg.frame _)⟩

theorem over : Rows.tableNamesRow.holds Tryd.pinned (OpenSpec.ofChange Rows.tableNamesSpec) :=
  OpenClaim.holds_of_wide 4 Tryd.f4 rfl rfl rfl rfl rfl rfl rfl ⟨rfl, rfl, rfl, rfl, rfl⟩ rfl rfl rfl rfl rfl (by kernel_rfl) Tryd.func4 (by kernel_rfl)
    (of_decide_eq_true (by kernel_rfl)) (by unfold Func.isWrapper; first | (rw [if_pos (by decide +kernel)]; kernel_rfl) | (rw [if_neg (by decide +kernel)]; exact ⟨rfl, rfl⟩))
    (fun os started H enc _ => lifted os started H enc)

/-- ████ THE STATEMENT: THE TIED CARD ████ -/
theorem proved : Rows.TableNamesCardSaid :=
  Claim7.holds_tied_plain_at .later [] [.data] true (true, "922a28cde330a59291a666e4fbd504a3f546074d10fa3a0d663cdf7917f6652f") false
    over (fun _ h => by cases h) (by kernel_rfl) (fun _ h => by cases h) tableNames_row_tie rfl ⟨rfl, rfl⟩ (by kernel_rfl) rfl
    (fun f fn hf hfn => by
      obtain rfl : f = 4 := Option.some.inj ((show Tryd.prog.funcNamed "cloakroom/cloakroomlaw06.TableNames" = some 4 by kernel_rfl).symm.trans hf) |>.symm
      obtain rfl : fn = Tryd.f4 := (Option.some.inj (Tryd.func4.symm.trans hfn)).symm
      exact ⟨by kernel_rfl, fun j t ht => by
        rw [Tryd.params4] at ht
        simp at ht⟩)
    (by kernel_rfl)
#print axioms proved
end Go.Proofs.YtbdmhdidehfmoaaDoor.tableNames
