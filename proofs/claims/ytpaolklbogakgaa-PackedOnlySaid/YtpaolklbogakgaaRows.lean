/-
  No cell of these rows narrows 'for every input' (looked for: loops, veiled, ifaces, maps, wideKeys, modest, calm, conditions, laid).
  DERIVED. THE GIVEN ROWS OF THIS SEAT. 5 by the template 'for every input the law returns true; each argument reads behind the call as it read before'; 0 by the template 'total and deterministic' (their statements: YtpaolklbogakgaaTotals.lean).
  GIVEN WITH THE SEED: the statements are not yours to turn. If you find one false, say at which input.
  Laid BY PROGRAM, IN A SANDBOX (cutbox-rows.mjs): the forced cells as the released guide's own fill.sh prints them over the translation 1583d39dc10950bb… (all of the seat's roots in one cut). By AI agents, Wed Nov 11 2026. No macro, syntax, notation, axiom, sorry.
-/
import Derived.Test.YtpaolklbogakgaaChecked
import GoSem.Claim
import GoSem.ClaimJoined
import GoSem.ClaimMapViews
import Derived.JoinedTies
import Derived.KernelRfl
namespace Go.Proofs.Ytpaolklbogakgaa
/- THE CELL 'sum', in the pinned program and in every row, IS THE sha256 OF THE DUMP (.gsa) THAT YtpaolklbogakgaaProg.lean LOADS. Nothing in Lean hashes anything: it is a label: what it is worth is what the hold of that sum in a sandbox is worth. -/
noncomputable def Try.pinned : Pinned := { name := "ytpaolklbogakgaa", sum := "1583d39dc10950bb804f14cff4f36ad08874b827309eb9a9f20c58cdbfafd137", checked := Try.checked }
namespace Rows
def none {H : Type} : Left H := { results := [], args := [] }

/-- 'cloakroomlaw17.PackedWrites': WHATEVER THE INPUT: true; the input reads as it did. -/
def packedWritesSpec : ChangeSpec := { name := "packedWrites", fn := fun _ => fun
  | [d] => { results := [.lit (.bool true)], args := [d] }
  | _ => none }
def packedWritesRow : OpenClaim := { program := "ytpaolklbogakgaa", sum := "1583d39dc10950bb804f14cff4f36ad08874b827309eb9a9f20c58cdbfafd137", func := "cloakroom/cloakroomlaw17.PackedWrites", spec := "packedWrites", unfollowed := true, recurses := true, apart := false }
def PackedWritesSaid : Prop := packedWritesRow.holds Try.pinned (OpenSpec.ofChange packedWritesSpec)

/-- ITS FALSE NEIGHBOUR: 'it returns false'. Refute it at one input. -/
def packedWritesWrong : ChangeSpec := { name := "packedWrites", fn := fun _ => fun
  | [d] => { results := [.lit (.bool false)], args := [d] }
  | _ => none }
def PackedWritesWrongFalsely : Prop := packedWritesRow.holds Try.pinned (OpenSpec.ofChange packedWritesWrong)

/-- 'cloakroomlaw17.PackedReads': WHATEVER THE INPUT: true; the input reads as it did. -/
def packedReadsSpec : ChangeSpec := { name := "packedReads", fn := fun _ => fun
  | [d] => { results := [.lit (.bool true)], args := [d] }
  | _ => none }
def packedReadsRow : OpenClaim := { program := "ytpaolklbogakgaa", sum := "1583d39dc10950bb804f14cff4f36ad08874b827309eb9a9f20c58cdbfafd137", func := "cloakroom/cloakroomlaw17.PackedReads", spec := "packedReads", unfollowed := true, recurses := true, apart := false }
def PackedReadsSaid : Prop := packedReadsRow.holds Try.pinned (OpenSpec.ofChange packedReadsSpec)

/-- ITS FALSE NEIGHBOUR: 'it returns false'. Refute it at one input. -/
def packedReadsWrong : ChangeSpec := { name := "packedReads", fn := fun _ => fun
  | [d] => { results := [.lit (.bool false)], args := [d] }
  | _ => none }
def PackedReadsWrongFalsely : Prop := packedReadsRow.holds Try.pinned (OpenSpec.ofChange packedReadsWrong)

/-- 'cloakroomlaw17.PackedNames': WHATEVER THE INPUT: true; the input reads as it did. -/
def packedNamesSpec : ChangeSpec := { name := "packedNames", fn := fun _ => fun
  | [] => { results := [.lit (.bool true)], args := [] }
  | _ => none }
def packedNamesRow : OpenClaim := { program := "ytpaolklbogakgaa", sum := "1583d39dc10950bb804f14cff4f36ad08874b827309eb9a9f20c58cdbfafd137", func := "cloakroom/cloakroomlaw17.PackedNames", spec := "packedNames", unfollowed := true, recurses := true, apart := false }
def PackedNamesSaid : Prop := packedNamesRow.holds Try.pinned (OpenSpec.ofChange packedNamesSpec)

/-- ITS FALSE NEIGHBOUR: 'it returns false'. Refute it at one input. -/
def packedNamesWrong : ChangeSpec := { name := "packedNames", fn := fun _ => fun
  | [] => { results := [.lit (.bool false)], args := [] }
  | _ => none }
def PackedNamesWrongFalsely : Prop := packedNamesRow.holds Try.pinned (OpenSpec.ofChange packedNamesWrong)

/-- 'cloakroomlaw17.PackedBack': WHATEVER THE INPUT: true; the input reads as it did. -/
def packedBackSpec : ChangeSpec := { name := "packedBack", fn := fun _ => fun
  | [d1, d2] => { results := [.lit (.bool true)], args := [d1, d2] }
  | _ => none }
def packedBackRow : OpenClaim := { program := "ytpaolklbogakgaa", sum := "1583d39dc10950bb804f14cff4f36ad08874b827309eb9a9f20c58cdbfafd137", func := "cloakroom/cloakroomlaw17.PackedBack", spec := "packedBack", unfollowed := true, recurses := true, apart := false }
def PackedBackSaid : Prop := packedBackRow.holds Try.pinned (OpenSpec.ofChange packedBackSpec)

/-- ITS FALSE NEIGHBOUR: 'it returns false'. Refute it at one input. -/
def packedBackWrong : ChangeSpec := { name := "packedBack", fn := fun _ => fun
  | [d1, d2] => { results := [.lit (.bool false)], args := [d1, d2] }
  | _ => none }
def PackedBackWrongFalsely : Prop := packedBackRow.holds Try.pinned (OpenSpec.ofChange packedBackWrong)

/-- 'cloakroomlaw17.PackedOnly': WHATEVER THE INPUT: true; the input reads as it did. -/
def packedOnlySpec : ChangeSpec := { name := "packedOnly", fn := fun _ => fun
  | [d] => { results := [.lit (.bool true)], args := [d] }
  | _ => none }
def packedOnlyRow : OpenClaim := { program := "ytpaolklbogakgaa", sum := "1583d39dc10950bb804f14cff4f36ad08874b827309eb9a9f20c58cdbfafd137", func := "cloakroom/cloakroomlaw17.PackedOnly", spec := "packedOnly", unfollowed := true, recurses := true, apart := false }
def PackedOnlySaid : Prop := packedOnlyRow.holds Try.pinned (OpenSpec.ofChange packedOnlySpec)

/-- ITS FALSE NEIGHBOUR: 'it returns false'. Refute it at one input. -/
def packedOnlyWrong : ChangeSpec := { name := "packedOnly", fn := fun _ => fun
  | [d] => { results := [.lit (.bool false)], args := [d] }
  | _ => none }
def PackedOnlyWrongFalsely : Prop := packedOnlyRow.holds Try.pinned (OpenSpec.ofChange packedOnlyWrong)

/- THE SECOND FORM. 'bulk': how many values and letters a reading holds, each counted each time it is reached (what is shared counts as often as it is met; a slice's spare places count too). A statement '..UptoSaid' is the law's where the arguments, and the package variables that the reading takes, are together of bulk at most 1048576: NARROWER than '..Said'. Prove '..Said' where nothing that the law and all that it calls make is longer than what came in: it says more and counts as full. Else prove '..UptoSaid'. A law counts once. -/
mutual
def uptoBulk {H : Type} : DataW H → Nat
  | .lit (.string bytes) => bytes.length + 1
  | .lit _ => 1
  | .nil => 1
  | .ptr d => uptoBulk d + 1
  | .slice elems spare => uptoBulkAll elems + uptoBulkAll spare + 1
  | .agg parts => uptoBulkAll parts + 1
  | .iface _ d => uptoBulk d + 1
  | .map entries => uptoBulkEntries entries + 1
  | .held _ => 1
def uptoBulkAll {H : Type} : List (DataW H) → Nat
  | [] => 0
  | d :: r => uptoBulk d + uptoBulkAll r
def uptoBulkEntries {H : Type} : List (Lit × DataW H) → Nat
  | [] => 0
  | x :: r => uptoBulkEntry x + uptoBulkEntries r
def uptoBulkEntry {H : Type} : Lit × DataW H → Nat
  | (.string bytes, d) => bytes.length + uptoBulk d + 1
  | (_, d) => uptoBulk d + 1
 end
def uptoSmall : (H : Type) → List (DataW H) → Bool := fun _ ds => decide (uptoBulkAll ds ≤ 1048576)
def OpenSpec.upto (s : _root_.Go.ChangeSpec) : _root_.Go.OpenSpec := { _root_.Go.OpenSpec.ofChange s with cond := some uptoSmall }

/-- 'cloakroomlaw17.PackedWrites', WHERE WHAT IT READS IS OF BULK AT MOST 1048576: true; the input reads as it did. -/
def packedWritesUptoRow : OpenClaim := { program := "ytpaolklbogakgaa", sum := "1583d39dc10950bb804f14cff4f36ad08874b827309eb9a9f20c58cdbfafd137", func := "cloakroom/cloakroomlaw17.PackedWrites", spec := "packedWrites", unfollowed := true, recurses := true, apart := false, narrowed := true }
def PackedWritesUptoSaid : Prop := packedWritesUptoRow.holds Try.pinned (OpenSpec.upto packedWritesSpec)

/-- 'cloakroomlaw17.PackedReads', WHERE WHAT IT READS IS OF BULK AT MOST 1048576: true; the input reads as it did. -/
def packedReadsUptoRow : OpenClaim := { program := "ytpaolklbogakgaa", sum := "1583d39dc10950bb804f14cff4f36ad08874b827309eb9a9f20c58cdbfafd137", func := "cloakroom/cloakroomlaw17.PackedReads", spec := "packedReads", unfollowed := true, recurses := true, apart := false, narrowed := true }
def PackedReadsUptoSaid : Prop := packedReadsUptoRow.holds Try.pinned (OpenSpec.upto packedReadsSpec)

/-- 'cloakroomlaw17.PackedNames', WHERE WHAT IT READS IS OF BULK AT MOST 1048576: true; the input reads as it did. -/
def packedNamesUptoRow : OpenClaim := { program := "ytpaolklbogakgaa", sum := "1583d39dc10950bb804f14cff4f36ad08874b827309eb9a9f20c58cdbfafd137", func := "cloakroom/cloakroomlaw17.PackedNames", spec := "packedNames", unfollowed := true, recurses := true, apart := false, narrowed := true }
def PackedNamesUptoSaid : Prop := packedNamesUptoRow.holds Try.pinned (OpenSpec.upto packedNamesSpec)

/-- 'cloakroomlaw17.PackedBack', WHERE WHAT IT READS IS OF BULK AT MOST 1048576: true; the input reads as it did. -/
def packedBackUptoRow : OpenClaim := { program := "ytpaolklbogakgaa", sum := "1583d39dc10950bb804f14cff4f36ad08874b827309eb9a9f20c58cdbfafd137", func := "cloakroom/cloakroomlaw17.PackedBack", spec := "packedBack", unfollowed := true, recurses := true, apart := false, narrowed := true }
def PackedBackUptoSaid : Prop := packedBackUptoRow.holds Try.pinned (OpenSpec.upto packedBackSpec)

/-- 'cloakroomlaw17.PackedOnly', WHERE WHAT IT READS IS OF BULK AT MOST 1048576: true; the input reads as it did. -/
def packedOnlyUptoRow : OpenClaim := { program := "ytpaolklbogakgaa", sum := "1583d39dc10950bb804f14cff4f36ad08874b827309eb9a9f20c58cdbfafd137", func := "cloakroom/cloakroomlaw17.PackedOnly", spec := "packedOnly", unfollowed := true, recurses := true, apart := false, narrowed := true }
def PackedOnlyUptoSaid : Prop := packedOnlyUptoRow.holds Try.pinned (OpenSpec.upto packedOnlySpec)

end Rows
end Go.Proofs.Ytpaolklbogakgaa
