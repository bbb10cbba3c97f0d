import Derived.Test.YtbdmhdidehfmoaaDoorTsL
set_option linter.unusedSimpArgs false
set_option linter.unusedVariables false
namespace Go.Proofs.YtbdmhdidehfmoaaDoor
open Go.Ev

theorem strV_lss (t : TypeId) (c : Bool) (x y : ByteArray) : binV Tryd.prog .lss t c (.string x) (.string y) = some (.bool (ltB x.data.toList y.data.toList)) := rfl
theorem r20_1_eq {call : CallT} {L : Nat} {tm : T Value} {h : H} {K : KE} {x y : Nm} {p q : Nat} (hp : Has h p (.rw [.int .i64 x.1, .string x.2])) (hq : Has h q (.rw [.int .i64 y.1, .string y.2])) (t2 : tg tm 2 = .pointer (some ⟨p, 0, none⟩)) (t3 : tg tm 3 = .pointer (some ⟨q, 0, none⟩)) (hlt : ltN x y) :
    r20_1 call L tm [] h K = K .norm (T.set tm 4 (.bool true)) [] h := by
  have l1 : ∀ o s, loadOne h (.pointer (some ⟨p, o, s⟩)) = [.int .i64 x.1, .string x.2][o]? := fun o s => loadOne_has hp rfl
  have l2 : ∀ o s, loadOne h (.pointer (some ⟨q, o, s⟩)) = [.int .i64 y.1, .string y.2][o]? := fun o s => loadOne_has hq rfl
  by_cases h1 : x.1 < y.1
  · simp only [↓opStep_eq, ↓reduceIte, ↓EW, EV, Nat.reduceAdd, Nat.reduceEqDiff, Int.reduceEq, Int.reduceLT, Int.reduceLE, Int.reduceNe, seqC, retC, skipC, exitC, blockC, condC, Bool.true_or, Bool.false_or, Bool.or_true, Bool.or_false, Bool.true_and, Bool.false_and, Bool.and_true, Bool.and_false, r20_1, t2, t3, l1, l2, h1]
  · rcases hlt with h2 | ⟨h2, h3⟩
    · exact absurd h2 h1
    · have h4 : ¬ y.1 < y.1 := by omega
      simp only [↓opStep_eq, ↓reduceIte, ↓EW, EV, Nat.reduceAdd, Nat.reduceEqDiff, Int.reduceEq, Int.reduceLT, Int.reduceLE, Int.reduceNe, seqC, retC, skipC, exitC, blockC, condC, Bool.true_or, Bool.false_or, Bool.or_true, Bool.or_false, Bool.true_and, Bool.false_and, Bool.and_true, Bool.and_false, r20_1, t2, t3, l1, l2, h2, h4, strV_lss, h3]
/-! ### the plain law: the names of numbers -/
def gE (i : Nat) : Ent := ⟨tOf i, nm i, (i : Int)⟩
def gl : Nat → List Ent
  | 0 => []
  | i + 1 => gE i :: gl i
def pick (back : Bool) (n i : Nat) : Nat := if back then n - 1 - i else i
end Go.Proofs.YtbdmhdidehfmoaaDoor

namespace Go.Proofs.YtbdmhdidehfmoaaDoor
open Go.Ev

/-- the temporaries that stay -/
structure Tg (n b : Nat) (back : Bool) (tm : T Value) : Prop where
  t0 : tg tm 0 = .int .i64 (n : Int)
  t1 : tg tm 1 = .bool back
  t5 : tg tm 5 = .bool true
  t6 : tg tm 6 = .pointer (some ⟨b, 0, none⟩)
theorem Tg.set {n b : Nat} {back : Bool} {tm : T Value} (x : Tg n b back tm) {j : Nat} {w : Value} (hj : j ≠ 0 ∧ j ≠ 1 ∧ j ≠ 5 ∧ j ≠ 6) : Tg n b back (T.set tm j w) := by
  obtain ⟨x0, x1, x2, x4⟩ := x
  refine ⟨?_, ?_, ?_, ?_⟩
  · rw [tg_set, if_neg hj.1]; exact x0
  · rw [tg_set, if_neg hj.2.1]; exact x1
  · rw [tg_set, if_neg hj.2.2.1]; exact x2
  · rw [tg_set, if_neg hj.2.2.2]; exact x4

end Go.Proofs.YtbdmhdidehfmoaaDoor

set_option maxRecDepth 100000
namespace Go.Proofs.YtbdmhdidehfmoaaDoor
open Go.Ev Go.RowKit

theorem v3 : Tryd.prog.underlying 3 = some (.int .i64) := by kernel_rfl
theorem v4 : Tryd.prog.underlying 4 = some .bool := by kernel_rfl
theorem gor : NoGor Tryd.prog := noGor_of (by kernel_rfl)
theorem xok : XOK Tryd.prog outside := xok_cons Tryd.func56 (by kernel_rfl) (by kernel_rfl) (by kernel_rfl) xok_nil
section
variable {H : Type} {enc : TypeId × Value → H}
end
end Go.Proofs.YtbdmhdidehfmoaaDoor
