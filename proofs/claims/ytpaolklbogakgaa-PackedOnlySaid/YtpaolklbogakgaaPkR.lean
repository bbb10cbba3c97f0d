import Derived.Test.YtpaolklbogakgaaPkN
set_option linter.unusedSimpArgs false
set_option linter.unusedVariables false
namespace Go.Proofs.Ytpaolklbogakgaa
open Go.Ev

/-- a slice that has been made since -/
structure Acc (h1 hx : H) (w : Value) (l : List UInt8) : Prop where
  m : Mine hx w l
  k : Keep nobody h1 hx
  f : ∀ b, blk w b → h1.next ≤ b
theorem Acc.go {h1 hx h' : H} {w : Value} {l : List UInt8} (a : Acc h1 hx w l) (k : Keep nobody hx h') : Acc h1 h' w l := ⟨a.m.keep0 k, a.k.then k, a.f⟩
theorem Acc.lit {h1 hx : H} {w : Value} {l bs : List UInt8} (a : Acc h1 hx w l) (hsz : l.length + bs.length ≤ 100000000) : ∃ w' h', appendV 1 1 (hx.new (.rw (bs.map bv))) w (.slice (some ⟨hx.next, 0, none⟩) bs.length bs.length) = some (w', h') ∧ Acc h1 h' w' (l ++ bs) := by
  obtain ⟨w', h', e1, e2, e3, e4⟩ := app_lit (bs := bs) a.m (by omega)
  exact ⟨w', h', e1, ⟨e2, a.k.trans e3 fun b hb hs => absurd (a.f b hs) (by omega), fun b hb => (e4 b hb).elim (a.f b) fun h => Nat.le_trans a.k.next h⟩⟩

section
variable {L n : Nat} {tm : T Value} {h1 hx : H} {w : Value} {l : List UInt8} {b5 : Nat} {x : Itm}
end
end Go.Proofs.Ytpaolklbogakgaa

namespace Go.Proofs.Ytpaolklbogakgaa
open Go.Ev

end Go.Proofs.Ytpaolklbogakgaa

namespace Go.Proofs.Ytpaolklbogakgaa
open Go.Ev

end Go.Proofs.Ytpaolklbogakgaa

namespace Go.Proofs.Ytpaolklbogakgaa
open Go.Ev Go.RowKit

theorem u5 : Try.prog.underlying 5 = some (.int .u8) := by kernel_rfl
theorem s9 : Try.prog.cellsOf 9 = 1 := by kernel_rfl
theorem s5 : Try.prog.cellsOf 5 = 1 := by kernel_rfl
theorem s3 : Try.prog.cellsOf 3 = 1 := by kernel_rfl
theorem s4 : Try.prog.cellsOf 4 = 1 := by kernel_rfl
section
variable {H : Type} {enc : TypeId × Value → H} {w : World} {base : Nat} {sp : Nat → Bool} {held : Bool}

end
end Go.Proofs.Ytpaolklbogakgaa

namespace Go.Proofs.Ytpaolklbogakgaa
open Go.Ev Go.RowKit

theorem gor : NoGor Try.prog := noGor_of (by kernel_rfl)
theorem xok : XOK Try.prog outside := xok_nil

section
variable {H : Type} {enc : TypeId × Value → H}
end
end Go.Proofs.Ytpaolklbogakgaa
