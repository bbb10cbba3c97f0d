/-
  NARROWER THAN 'FOR EVERY INPUT', by the rows' own cells (each row's printed sentence says how): TableLast: laid · TableNames: laid · TableDoes: laid · TableGrows: laid.
  DERIVED. THE GIVEN ROWS OF THIS SEAT. 4 by the template 'for every input the law returns true; each argument reads behind the call as it read before'; 0 by the template 'total and deterministic' (their statements: YtbdmhdidehfmoaaDoorTotals.lean).
  GIVEN WITH THE SEED: the statements are not yours to turn. If you find one false, say at which input.
  Laid BY PROGRAM, IN A SANDBOX (cutbox-rows.mjs): the forced cells as the released guide's own fill.sh prints them over the translation a82e8118554700b2… (all of the seat's roots in one cut). By AI agents, Wed Nov 11 2026. No macro, syntax, notation, axiom, sorry.
-/
import Derived.Test.YtbdmhdidehfmoaaDoorChecked
import GoSem.Claim
import GoSem.ClaimJoined
import GoSem.ClaimMapViews
import Derived.JoinedTies
import Derived.KernelRfl
namespace Go.Proofs.YtbdmhdidehfmoaaDoor
/- THE CELL 'sum', in the pinned program and in every row, IS THE sha256 OF THE DUMP (.gsa) THAT YtbdmhdidehfmoaaDoorProg.lean LOADS. Nothing in Lean hashes anything: it is a label: what it is worth is what the hold of that sum in a sandbox is worth. -/
noncomputable def Tryd.pinned : Pinned := { name := "ytbdmhdidehfmoaadoor", sum := "a82e8118554700b2ab2f1aa754321cd8b661887c919296fceffc4912f636687c", checked := Tryd.checked }
namespace Rows
def none {H : Type} : Left H := { results := [], args := [] }

/- WHAT THE LISTED PACKAGE-LEVEL VARIABLES READ AS WHEN THE CALL BEGINS. Each datum BY PROGRAM (the guide's laid-datum.mjs) off the statement by which the dump's own 'gosem.cut.vars' lays the variable. In a bare row this is a premise. The card (YtbdmhdidehfmoaaDoorCards.lean) ties it to the program's text. -/
def laid_cloakroom_table_some {H : Type} : DataW H := .agg [.lit (.int .i64 0), .lit (.string [107])]

/-- 'cloakroomlaw06.TableLast': WHATEVER THE INPUT: true; the input reads as it did. -/
def tableLastSpec : ChangeSpec := { name := "tableLast", fn := fun _ => fun
  | [d] => { results := [.lit (.bool true)], args := [d] }
  | _ => none }
def tableLastRow : OpenClaim := { program := "ytbdmhdidehfmoaadoor", sum := "a82e8118554700b2ab2f1aa754321cd8b661887c919296fceffc4912f636687c", func := "cloakroom/cloakroomlaw06.TableLast", spec := "tableLast", unfollowed := true, recurses := true, named := ["cloakroom/table.some"], apart := false, laid := [("cloakroom/table.some", laid_cloakroom_table_some)] }
def TableLastSaid : Prop := tableLastRow.holds Tryd.pinned (OpenSpec.ofChange tableLastSpec)

/-- ITS FALSE NEIGHBOUR: 'it returns false'. Refute it at one input. -/
def tableLastWrong : ChangeSpec := { name := "tableLast", fn := fun _ => fun
  | [d] => { results := [.lit (.bool false)], args := [d] }
  | _ => none }
def TableLastWrongFalsely : Prop := tableLastRow.holds Tryd.pinned (OpenSpec.ofChange tableLastWrong)

/-- 'cloakroomlaw06.TableNames': WHATEVER THE INPUT: true; the input reads as it did. -/
def tableNamesSpec : ChangeSpec := { name := "tableNames", fn := fun _ => fun
  | [] => { results := [.lit (.bool true)], args := [] }
  | _ => none }
def tableNamesRow : OpenClaim := { program := "ytbdmhdidehfmoaadoor", sum := "a82e8118554700b2ab2f1aa754321cd8b661887c919296fceffc4912f636687c", func := "cloakroom/cloakroomlaw06.TableNames", spec := "tableNames", inPlace := ["internal/bytealg.abigen_runtime_cmpstring"], unfollowed := true, recurses := true, named := ["cloakroom/table.some"], apart := false, laid := [("cloakroom/table.some", laid_cloakroom_table_some)] }
def TableNamesSaid : Prop := tableNamesRow.holds Tryd.pinned (OpenSpec.ofChange tableNamesSpec)

/-- ITS FALSE NEIGHBOUR: 'it returns false'. Refute it at one input. -/
def tableNamesWrong : ChangeSpec := { name := "tableNames", fn := fun _ => fun
  | [] => { results := [.lit (.bool false)], args := [] }
  | _ => none }
def TableNamesWrongFalsely : Prop := tableNamesRow.holds Tryd.pinned (OpenSpec.ofChange tableNamesWrong)

/-- 'cloakroomlaw06.TableDoes': WHATEVER THE INPUT: true; the input reads as it did. -/
def tableDoesSpec : ChangeSpec := { name := "tableDoes", fn := fun _ => fun
  | [d] => { results := [.lit (.bool true)], args := [d] }
  | _ => none }
def tableDoesRow : OpenClaim := { program := "ytbdmhdidehfmoaadoor", sum := "a82e8118554700b2ab2f1aa754321cd8b661887c919296fceffc4912f636687c", func := "cloakroom/cloakroomlaw06.TableDoes", spec := "tableDoes", inPlace := ["internal/bytealg.abigen_runtime_cmpstring"], unfollowed := true, recurses := true, named := ["cloakroom/table.some"], apart := false, laid := [("cloakroom/table.some", laid_cloakroom_table_some)] }
def TableDoesSaid : Prop := tableDoesRow.holds Tryd.pinned (OpenSpec.ofChange tableDoesSpec)

/-- ITS FALSE NEIGHBOUR: 'it returns false'. Refute it at one input. -/
def tableDoesWrong : ChangeSpec := { name := "tableDoes", fn := fun _ => fun
  | [d] => { results := [.lit (.bool false)], args := [d] }
  | _ => none }
def TableDoesWrongFalsely : Prop := tableDoesRow.holds Tryd.pinned (OpenSpec.ofChange tableDoesWrong)

/-- 'cloakroomlaw06.TableGrows': WHATEVER THE INPUT: true; the input reads as it did. -/
def tableGrowsSpec : ChangeSpec := { name := "tableGrows", fn := fun _ => fun
  | [d1, d2] => { results := [.lit (.bool true)], args := [d1, d2] }
  | _ => none }
def tableGrowsRow : OpenClaim := { program := "ytbdmhdidehfmoaadoor", sum := "a82e8118554700b2ab2f1aa754321cd8b661887c919296fceffc4912f636687c", func := "cloakroom/cloakroomlaw06.TableGrows", spec := "tableGrows", inPlace := ["internal/bytealg.abigen_runtime_cmpstring"], unfollowed := true, recurses := true, named := ["cloakroom/table.some"], apart := false, laid := [("cloakroom/table.some", laid_cloakroom_table_some)] }
def TableGrowsSaid : Prop := tableGrowsRow.holds Tryd.pinned (OpenSpec.ofChange tableGrowsSpec)

/-- ITS FALSE NEIGHBOUR: 'it returns false'. Refute it at one input. -/
def tableGrowsWrong : ChangeSpec := { name := "tableGrows", fn := fun _ => fun
  | [d1, d2] => { results := [.lit (.bool false)], args := [d1, d2] }
  | _ => none }
def TableGrowsWrongFalsely : Prop := tableGrowsRow.holds Tryd.pinned (OpenSpec.ofChange tableGrowsWrong)

/- THE SECOND FORM. 'bulk': how many values and letters a reading holds, each counted each time it is reached (what is shared counts as often as it is met; a slice's spare places count too). A statement '..UptoSaid' is the law's where the arguments, and the package variables that the reading takes, are together of bulk at most 1048576: NARROWER than '..Said'. Prove '..Said' where nothing that the law and all that it calls make is longer than what came in: it says more and counts as full. Else prove '..UptoSaid'. A law counts once. -/
mutual
def uptoBulk {H : Type} : DataW H → Nat
  | .lit (.string bytes) => bytes.length + 1
  | .lit _ => 1
  | .nil => 1
  | .ptr d => uptoBulk d + 1
  | .slice elems spare => uptoBulkAll elems + uptoBulkAll spare + 1
  | .agg parts => uptoBulkAll parts + 1
  | .iface _ d => uptoBulk d + 1
  | .map entries => uptoBulkEntries entries + 1
  | .held _ => 1
def uptoBulkAll {H : Type} : List (DataW H) → Nat
  | [] => 0
  | d :: r => uptoBulk d + uptoBulkAll r
def uptoBulkEntries {H : Type} : List (Lit × DataW H) → Nat
  | [] => 0
  | x :: r => uptoBulkEntry x + uptoBulkEntries r
def uptoBulkEntry {H : Type} : Lit × DataW H → Nat
  | (.string bytes, d) => bytes.length + uptoBulk d + 1
  | (_, d) => uptoBulk d + 1
 end
def uptoSmall : (H : Type) → List (DataW H) → Bool := fun _ ds => decide (uptoBulkAll ds ≤ 1048576)
def OpenSpec.upto (s : _root_.Go.ChangeSpec) : _root_.Go.OpenSpec := { _root_.Go.OpenSpec.ofChange s with cond := some uptoSmall }

/-- 'cloakroomlaw06.TableLast', WHERE WHAT IT READS IS OF BULK AT MOST 1048576: true; the input reads as it did. -/
def tableLastUptoRow : OpenClaim := { program := "ytbdmhdidehfmoaadoor", sum := "a82e8118554700b2ab2f1aa754321cd8b661887c919296fceffc4912f636687c", func := "cloakroom/cloakroomlaw06.TableLast", spec := "tableLast", unfollowed := true, recurses := true, named := ["cloakroom/table.some"], apart := false, laid := [("cloakroom/table.some", laid_cloakroom_table_some)], narrowed := true }
def TableLastUptoSaid : Prop := tableLastUptoRow.holds Tryd.pinned (OpenSpec.upto tableLastSpec)

/-- 'cloakroomlaw06.TableNames', WHERE WHAT IT READS IS OF BULK AT MOST 1048576: true; the input reads as it did. -/
def tableNamesUptoRow : OpenClaim := { program := "ytbdmhdidehfmoaadoor", sum := "a82e8118554700b2ab2f1aa754321cd8b661887c919296fceffc4912f636687c", func := "cloakroom/cloakroomlaw06.TableNames", spec := "tableNames", inPlace := ["internal/bytealg.abigen_runtime_cmpstring"], unfollowed := true, recurses := true, named := ["cloakroom/table.some"], apart := false, laid := [("cloakroom/table.some", laid_cloakroom_table_some)], narrowed := true }
def TableNamesUptoSaid : Prop := tableNamesUptoRow.holds Tryd.pinned (OpenSpec.upto tableNamesSpec)

/-- 'cloakroomlaw06.TableDoes', WHERE WHAT IT READS IS OF BULK AT MOST 1048576: true; the input reads as it did. -/
def tableDoesUptoRow : OpenClaim := { program := "ytbdmhdidehfmoaadoor", sum := "a82e8118554700b2ab2f1aa754321cd8b661887c919296fceffc4912f636687c", func := "cloakroom/cloakroomlaw06.TableDoes", spec := "tableDoes", inPlace := ["internal/bytealg.abigen_runtime_cmpstring"], unfollowed := true, recurses := true, named := ["cloakroom/table.some"], apart := false, laid := [("cloakroom/table.some", laid_cloakroom_table_some)], narrowed := true }
def TableDoesUptoSaid : Prop := tableDoesUptoRow.holds Tryd.pinned (OpenSpec.upto tableDoesSpec)

/-- 'cloakroomlaw06.TableGrows', WHERE WHAT IT READS IS OF BULK AT MOST 1048576: true; the input reads as it did. -/
def tableGrowsUptoRow : OpenClaim := { program := "ytbdmhdidehfmoaadoor", sum := "a82e8118554700b2ab2f1aa754321cd8b661887c919296fceffc4912f636687c", func := "cloakroom/cloakroomlaw06.TableGrows", spec := "tableGrows", inPlace := ["internal/bytealg.abigen_runtime_cmpstring"], unfollowed := true, recurses := true, named := ["cloakroom/table.some"], apart := false, laid := [("cloakroom/table.some", laid_cloakroom_table_some)], narrowed := true }
def TableGrowsUptoSaid : Prop := tableGrowsUptoRow.holds Tryd.pinned (OpenSpec.upto tableGrowsSpec)

end Rows
end Go.Proofs.YtbdmhdidehfmoaaDoor
