import Derived.Test.YtpaolklbogakgaaPkS
set_option linter.unusedSimpArgs false
set_option linter.unusedVariables false
namespace Go.Proofs.Ytpaolklbogakgaa
open Go.Ev Go.RowKit

theorem wrap_u64 (n : Nat) (h : n < 18446744073709551616) : IntKind.u64.wrap (n : Int) = (n : Int) := by
  rw [wrap_eq] <;> simp [IntKind.min, IntKind.max, IntKind.bits, IntKind.signed] <;> omega

theorem keep_room (h : H) (n : Nat) : Keep nobody h ⟨h.objs, h.next + n⟩ := ⟨Nat.le_add_right _ _, fun _ _ _ => rfl⟩
theorem Mine.cells {h : H} {v : Value} {l : List UInt8} (m : Mine h v l) : v.cells = #[v] := by cases m <;> rfl
theorem hO_self {v : Value} (hv : veq 64 v v = true) (b : Bool) : hO (some v) v b = b := by unfold hO; simp only [hv]
theorem veq_int (k : IntKind) (n : Int) : veq 64 (.int k n) (.int k n) = true := by
  show (kEq k k && iEq n n) = true
  rw [kEq_self, iEq_dec]; simp
theorem veq_str (s : ByteArray) : veq 64 (.string s) (.string s) = true := by
  show leB s.data.toList s.data.toList = true
  rw [leB_eq]; simp
theorem veq_slice (b o n c : Nat) : veq 64 (.slice (some ⟨b, o, none⟩) n c) (.slice (some ⟨b, o, none⟩) n c) = true := by
  show ((Nat.beq b b && Nat.beq o o && true) && Nat.beq n n && Nat.beq c c) = true
  simp only [Nat.beq_refl, Bool.and_self]
theorem ItemsAt.veq {h : H} {v : Value} {l : List Itm} (a : ItemsAt h v l) : veq 64 v v = true := by
  rcases a with ⟨rfl, rfl⟩ | ⟨b, o, c, x, cs, rfl, _⟩
  · rfl
  · exact veq_slice _ _ _ _

theorem gor : NoGor Try.prog := noGor_of (by kernel_rfl)
theorem xok : XOK Try.prog outside := xok_nil

end Go.Proofs.Ytpaolklbogakgaa
