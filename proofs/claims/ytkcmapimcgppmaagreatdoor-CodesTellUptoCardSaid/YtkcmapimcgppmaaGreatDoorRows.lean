/-
  NARROWER THAN 'FOR EVERY INPUT', by the rows' own cells (each row's printed sentence says how): CodesTuples: loops, laid · CodesTell: loops, laid · CodesMove: loops, laid · CodesShapes: laid.
  DERIVED. THE GIVEN ROWS OF THIS SEAT. 4 by the template 'for every input the law returns true; each argument reads behind the call as it read before'; 0 by the template 'total and deterministic' (their statements: YtkcmapimcgppmaaGreatDoorTotals.lean).
  GIVEN WITH THE SEED: the statements are not yours to turn. If you find one false, say at which input.
  Laid BY PROGRAM, IN A SANDBOX (cutbox-rows.mjs): the forced cells as the released guide's own fill.sh prints them over the translation f519759ff3b00bf8… (all of the seat's roots in one cut). By AI agents, Wed Nov 11 2026. No macro, syntax, notation, axiom, sorry.
-/
import Derived.Test.YtkcmapimcgppmaaGreatDoorChecked
import GoSem.Claim
import GoSem.ClaimJoined
import GoSem.ClaimMapViews
import Derived.JoinedTies
import Derived.KernelRfl
namespace Go.Proofs.YtkcmapimcgppmaaGreatDoor
/- THE CELL 'sum', in the pinned program and in every row, IS THE sha256 OF THE DUMP (.gsa) THAT YtkcmapimcgppmaaGreatDoorProg.lean LOADS. Nothing in Lean hashes anything: it is a label: what it is worth is what the hold of that sum in a sandbox is worth. -/
noncomputable def Tryz.pinned : Pinned := { name := "ytkcmapimcgppmaagreatdoor", sum := "f519759ff3b00bf864d60fa4c248b156630822397fe3306e727d18cd075999bf", checked := Tryz.checked }
namespace Rows
def none {H : Type} : Left H := { results := [], args := [] }

/- WHAT THE LISTED PACKAGE-LEVEL VARIABLES READ AS WHEN THE CALL BEGINS. Each datum BY PROGRAM (the guide's laid-datum.mjs) off the statement by which the dump's own 'gosem.cut.vars' lays the variable. In a bare row this is a premise. The card (YtkcmapimcgppmaaGreatDoorCards.lean) ties it to the program's text. -/
def laid_spandrel_term_kinds {H : Type} : DataW H := .agg [.agg [.lit (.bool false), .lit (.bool false), .lit (.int .i64 0), .lit (.int .i64 0), .lit (.int .i64 0)], .agg [.lit (.bool true), .lit (.bool false), .lit (.int .i64 0), .lit (.int .i64 0), .lit (.int .i64 (-1))], .agg [.lit (.bool false), .lit (.bool false), .lit (.int .i64 1), .lit (.int .i64 0), .lit (.int .i64 (-1))], .agg [.lit (.bool true), .lit (.bool false), .lit (.int .i64 (-1)), .lit (.int .i64 0), .lit (.int .i64 (-1))], .agg [.lit (.bool false), .lit (.bool false), .lit (.int .i64 0), .lit (.int .i64 2), .lit (.int .i64 1)], .agg [.lit (.bool false), .lit (.bool false), .lit (.int .i64 0), .lit (.int .i64 2), .lit (.int .i64 1)], .agg [.lit (.bool false), .lit (.bool false), .lit (.int .i64 0), .lit (.int .i64 2), .lit (.int .i64 (-1))], .agg [.lit (.bool false), .lit (.bool false), .lit (.int .i64 0), .lit (.int .i64 3), .lit (.int .i64 2)], .agg [.lit (.bool true), .lit (.bool true), .lit (.int .i64 (-1)), .lit (.int .i64 0), .lit (.int .i64 (-1))], .agg [.lit (.bool true), .lit (.bool true), .lit (.int .i64 (-1)), .lit (.int .i64 0), .lit (.int .i64 (-1))], .agg [.lit (.bool true), .lit (.bool true), .lit (.int .i64 (-1)), .lit (.int .i64 0), .lit (.int .i64 (-1))], .agg [.lit (.bool false), .lit (.bool true), .lit (.int .i64 0), .lit (.int .i64 0), .lit (.int .i64 (-1))], .agg [.lit (.bool false), .lit (.bool false), .lit (.int .i64 0), .lit (.int .i64 2), .lit (.int .i64 1)], .agg [.lit (.bool false), .lit (.bool false), .lit (.int .i64 0), .lit (.int .i64 2), .lit (.int .i64 (-1))], .agg [.lit (.bool false), .lit (.bool false), .lit (.int .i64 0), .lit (.int .i64 1), .lit (.int .i64 (-1))], .agg [.lit (.bool false), .lit (.bool false), .lit (.int .i64 0), .lit (.int .i64 1), .lit (.int .i64 (-1))], .agg [.lit (.bool false), .lit (.bool false), .lit (.int .i64 0), .lit (.int .i64 2), .lit (.int .i64 1)], .agg [.lit (.bool false), .lit (.bool false), .lit (.int .i64 0), .lit (.int .i64 2), .lit (.int .i64 (-1))], .agg [.lit (.bool false), .lit (.bool false), .lit (.int .i64 0), .lit (.int .i64 5), .lit (.int .i64 1)], .agg [.lit (.bool false), .lit (.bool false), .lit (.int .i64 0), .lit (.int .i64 3), .lit (.int .i64 (-1))], .agg [.lit (.bool false), .lit (.bool false), .lit (.int .i64 0), .lit (.int .i64 0), .lit (.int .i64 (-1))], .agg [.lit (.bool false), .lit (.bool false), .lit (.int .i64 0), .lit (.int .i64 6), .lit (.int .i64 (-1))], .agg [.lit (.bool true), .lit (.bool false), .lit (.int .i64 0), .lit (.int .i64 0), .lit (.int .i64 (-1))], .agg [.lit (.bool true), .lit (.bool true), .lit (.int .i64 0), .lit (.int .i64 0), .lit (.int .i64 (-1))], .agg [.lit (.bool false), .lit (.bool true), .lit (.int .i64 0), .lit (.int .i64 2), .lit (.int .i64 (-1))]]

/-- 'spandrellaw22.CodesTuples': WHATEVER THE INPUT: true; the input reads as it did. -/
def codesTuplesSpec : ChangeSpec := { name := "codesTuples", fn := fun _ => fun
  | [d1, d2, d3, d4] => { results := [.lit (.bool true)], args := [d1, d2, d3, d4] }
  | _ => none }
def codesTuplesRow : OpenClaim := { program := "ytkcmapimcgppmaagreatdoor", sum := "f519759ff3b00bf864d60fa4c248b156630822397fe3306e727d18cd075999bf", func := "spandrel/spandrellaw22.CodesTuples", spec := "codesTuples", unfollowed := true, recurses := true, named := ["spandrel/term.kinds"], loops := true, apart := false, laid := [("spandrel/term.kinds", laid_spandrel_term_kinds)] }
def CodesTuplesSaid : Prop := codesTuplesRow.holds Tryz.pinned (OpenSpec.ofChange codesTuplesSpec)

/-- ITS FALSE NEIGHBOUR: 'it returns false'. Refute it at one input. -/
def codesTuplesWrong : ChangeSpec := { name := "codesTuples", fn := fun _ => fun
  | [d1, d2, d3, d4] => { results := [.lit (.bool false)], args := [d1, d2, d3, d4] }
  | _ => none }
def CodesTuplesWrongFalsely : Prop := codesTuplesRow.holds Tryz.pinned (OpenSpec.ofChange codesTuplesWrong)

/-- 'spandrellaw22.CodesTell': WHATEVER THE INPUT: true; the input reads as it did. -/
def codesTellSpec : ChangeSpec := { name := "codesTell", fn := fun _ => fun
  | [d1, d2, d3, d4] => { results := [.lit (.bool true)], args := [d1, d2, d3, d4] }
  | _ => none }
def codesTellRow : OpenClaim := { program := "ytkcmapimcgppmaagreatdoor", sum := "f519759ff3b00bf864d60fa4c248b156630822397fe3306e727d18cd075999bf", func := "spandrel/spandrellaw22.CodesTell", spec := "codesTell", unfollowed := true, recurses := true, named := ["spandrel/term.kinds"], loops := true, apart := false, laid := [("spandrel/term.kinds", laid_spandrel_term_kinds)] }
def CodesTellSaid : Prop := codesTellRow.holds Tryz.pinned (OpenSpec.ofChange codesTellSpec)

/-- ITS FALSE NEIGHBOUR: 'it returns false'. Refute it at one input. -/
def codesTellWrong : ChangeSpec := { name := "codesTell", fn := fun _ => fun
  | [d1, d2, d3, d4] => { results := [.lit (.bool false)], args := [d1, d2, d3, d4] }
  | _ => none }
def CodesTellWrongFalsely : Prop := codesTellRow.holds Tryz.pinned (OpenSpec.ofChange codesTellWrong)

/-- 'spandrellaw22.CodesMove': WHATEVER THE INPUT: true; the input reads as it did. -/
def codesMoveSpec : ChangeSpec := { name := "codesMove", fn := fun _ => fun
  | [d1, d2, d3, d4] => { results := [.lit (.bool true)], args := [d1, d2, d3, d4] }
  | _ => none }
def codesMoveRow : OpenClaim := { program := "ytkcmapimcgppmaagreatdoor", sum := "f519759ff3b00bf864d60fa4c248b156630822397fe3306e727d18cd075999bf", func := "spandrel/spandrellaw22.CodesMove", spec := "codesMove", unfollowed := true, recurses := true, named := ["spandrel/term.kinds"], loops := true, apart := false, laid := [("spandrel/term.kinds", laid_spandrel_term_kinds)] }
def CodesMoveSaid : Prop := codesMoveRow.holds Tryz.pinned (OpenSpec.ofChange codesMoveSpec)

/-- ITS FALSE NEIGHBOUR: 'it returns false'. Refute it at one input. -/
def codesMoveWrong : ChangeSpec := { name := "codesMove", fn := fun _ => fun
  | [d1, d2, d3, d4] => { results := [.lit (.bool false)], args := [d1, d2, d3, d4] }
  | _ => none }
def CodesMoveWrongFalsely : Prop := codesMoveRow.holds Tryz.pinned (OpenSpec.ofChange codesMoveWrong)

/-- 'spandrellaw22.CodesShapes': WHATEVER THE INPUT: true; the input reads as it did. -/
def codesShapesSpec : ChangeSpec := { name := "codesShapes", fn := fun _ => fun
  | [] => { results := [.lit (.bool true)], args := [] }
  | _ => none }
def codesShapesRow : OpenClaim := { program := "ytkcmapimcgppmaagreatdoor", sum := "f519759ff3b00bf864d60fa4c248b156630822397fe3306e727d18cd075999bf", func := "spandrel/spandrellaw22.CodesShapes", spec := "codesShapes", unfollowed := true, recurses := true, named := ["spandrel/term.kinds"], apart := false, laid := [("spandrel/term.kinds", laid_spandrel_term_kinds)] }
def CodesShapesSaid : Prop := codesShapesRow.holds Tryz.pinned (OpenSpec.ofChange codesShapesSpec)

/-- ITS FALSE NEIGHBOUR: 'it returns false'. Refute it at one input. -/
def codesShapesWrong : ChangeSpec := { name := "codesShapes", fn := fun _ => fun
  | [] => { results := [.lit (.bool false)], args := [] }
  | _ => none }
def CodesShapesWrongFalsely : Prop := codesShapesRow.holds Tryz.pinned (OpenSpec.ofChange codesShapesWrong)

/- THE SECOND FORM. 'bulk': how many values and letters a reading holds, each counted each time it is reached (what is shared counts as often as it is met; a slice's spare places count too). A statement '..UptoSaid' is the law's where the arguments, and the package variables that the reading takes, are together of bulk at most 1048576: NARROWER than '..Said'. Prove '..Said' where nothing that the law and all that it calls make is longer than what came in: it says more and counts as full. Else prove '..UptoSaid'. A law counts once. -/
mutual
def uptoBulk {H : Type} : DataW H → Nat
  | .lit (.string bytes) => bytes.length + 1
  | .lit _ => 1
  | .nil => 1
  | .ptr d => uptoBulk d + 1
  | .slice elems spare => uptoBulkAll elems + uptoBulkAll spare + 1
  | .agg parts => uptoBulkAll parts + 1
  | .iface _ d => uptoBulk d + 1
  | .map entries => uptoBulkEntries entries + 1
  | .held _ => 1
def uptoBulkAll {H : Type} : List (DataW H) → Nat
  | [] => 0
  | d :: r => uptoBulk d + uptoBulkAll r
def uptoBulkEntries {H : Type} : List (Lit × DataW H) → Nat
  | [] => 0
  | x :: r => uptoBulkEntry x + uptoBulkEntries r
def uptoBulkEntry {H : Type} : Lit × DataW H → Nat
  | (.string bytes, d) => bytes.length + uptoBulk d + 1
  | (_, d) => uptoBulk d + 1
 end
def uptoSmall : (H : Type) → List (DataW H) → Bool := fun _ ds => decide (uptoBulkAll ds ≤ 1048576)
def OpenSpec.upto (s : _root_.Go.ChangeSpec) : _root_.Go.OpenSpec := { _root_.Go.OpenSpec.ofChange s with cond := some uptoSmall }

/-- 'spandrellaw22.CodesTuples', WHERE WHAT IT READS IS OF BULK AT MOST 1048576: true; the input reads as it did. -/
def codesTuplesUptoRow : OpenClaim := { program := "ytkcmapimcgppmaagreatdoor", sum := "f519759ff3b00bf864d60fa4c248b156630822397fe3306e727d18cd075999bf", func := "spandrel/spandrellaw22.CodesTuples", spec := "codesTuples", unfollowed := true, recurses := true, named := ["spandrel/term.kinds"], loops := true, apart := false, laid := [("spandrel/term.kinds", laid_spandrel_term_kinds)], narrowed := true }
def CodesTuplesUptoSaid : Prop := codesTuplesUptoRow.holds Tryz.pinned (OpenSpec.upto codesTuplesSpec)

/-- 'spandrellaw22.CodesTell', WHERE WHAT IT READS IS OF BULK AT MOST 1048576: true; the input reads as it did. -/
def codesTellUptoRow : OpenClaim := { program := "ytkcmapimcgppmaagreatdoor", sum := "f519759ff3b00bf864d60fa4c248b156630822397fe3306e727d18cd075999bf", func := "spandrel/spandrellaw22.CodesTell", spec := "codesTell", unfollowed := true, recurses := true, named := ["spandrel/term.kinds"], loops := true, apart := false, laid := [("spandrel/term.kinds", laid_spandrel_term_kinds)], narrowed := true }
def CodesTellUptoSaid : Prop := codesTellUptoRow.holds Tryz.pinned (OpenSpec.upto codesTellSpec)

/-- 'spandrellaw22.CodesMove', WHERE WHAT IT READS IS OF BULK AT MOST 1048576: true; the input reads as it did. -/
def codesMoveUptoRow : OpenClaim := { program := "ytkcmapimcgppmaagreatdoor", sum := "f519759ff3b00bf864d60fa4c248b156630822397fe3306e727d18cd075999bf", func := "spandrel/spandrellaw22.CodesMove", spec := "codesMove", unfollowed := true, recurses := true, named := ["spandrel/term.kinds"], loops := true, apart := false, laid := [("spandrel/term.kinds", laid_spandrel_term_kinds)], narrowed := true }
def CodesMoveUptoSaid : Prop := codesMoveUptoRow.holds Tryz.pinned (OpenSpec.upto codesMoveSpec)

/-- 'spandrellaw22.CodesShapes', WHERE WHAT IT READS IS OF BULK AT MOST 1048576: true; the input reads as it did. -/
def codesShapesUptoRow : OpenClaim := { program := "ytkcmapimcgppmaagreatdoor", sum := "f519759ff3b00bf864d60fa4c248b156630822397fe3306e727d18cd075999bf", func := "spandrel/spandrellaw22.CodesShapes", spec := "codesShapes", unfollowed := true, recurses := true, named := ["spandrel/term.kinds"], apart := false, laid := [("spandrel/term.kinds", laid_spandrel_term_kinds)], narrowed := true }
def CodesShapesUptoSaid : Prop := codesShapesUptoRow.holds Tryz.pinned (OpenSpec.upto codesShapesSpec)

end Rows
end Go.Proofs.YtkcmapimcgppmaaGreatDoor
