/-
  NARROWER THAN 'FOR EVERY INPUT', by the rows' own cells (each row's printed sentence says how): GraphKnown: laid · GraphParts: laid · GraphCuts: laid · GraphPartitions: laid · GraphChecks: laid · GraphMakes: laid · GraphBorders: laid · GraphTears: laid · GraphWays: laid · GraphShrinks: laid.
  DERIVED. THE GIVEN ROWS OF THIS SEAT. 10 by the template 'for every input the law returns true; each argument reads behind the call as it read before'; 0 by the template 'total and deterministic' (their statements: YtpclggcpobakhaaDoorTotals.lean).
  GIVEN WITH THE SEED: the statements are not yours to turn. If you find one false, say at which input.
  Laid BY PROGRAM, IN A SANDBOX (cutbox-rows.mjs): the forced cells as the released guide's own fill.sh prints them over the translation ecdcd60d389ec939… (all of the seat's roots in one cut). By AI agents, Wed Nov 11 2026. No macro, syntax, notation, axiom, sorry.
-/
import Derived.Test.YtpclggcpobakhaaDoorChecked
import GoSem.Claim
import GoSem.ClaimJoined
import GoSem.ClaimMapViews
import Derived.JoinedTies
import Derived.KernelRfl
namespace Go.Proofs.YtpclggcpobakhaaDoor
/- THE CELL 'sum', in the pinned program and in every row, IS THE sha256 OF THE DUMP (.gsa) THAT YtpclggcpobakhaaDoorProg.lean LOADS. Nothing in Lean hashes anything: it is a label: what it is worth is what the hold of that sum in a sandbox is worth. -/
noncomputable def Tryd.pinned : Pinned := { name := "ytpclggcpobakhaadoor", sum := "ecdcd60d389ec939371cde576f07bb9087465470d87bcfc52fa703dcdf988328", checked := Tryd.checked }
namespace Rows
def none {H : Type} : Left H := { results := [], args := [] }

/- WHAT THE LISTED PACKAGE-LEVEL VARIABLES READ AS WHEN THE CALL BEGINS. Each datum BY PROGRAM (the guide's laid-datum.mjs) off the statement by which the dump's own 'gosem.cut.vars' lays the variable. In a bare row this is a premise. The card (YtpclggcpobakhaaDoorCards.lean) ties it to the program's text. -/
def laid_math_bits_deBruijn64tab {H : Type} : DataW H := .agg [.lit (.int .u8 0), .lit (.int .u8 1), .lit (.int .u8 56), .lit (.int .u8 2), .lit (.int .u8 57), .lit (.int .u8 49), .lit (.int .u8 28), .lit (.int .u8 3), .lit (.int .u8 61), .lit (.int .u8 58), .lit (.int .u8 42), .lit (.int .u8 50), .lit (.int .u8 38), .lit (.int .u8 29), .lit (.int .u8 17), .lit (.int .u8 4), .lit (.int .u8 62), .lit (.int .u8 47), .lit (.int .u8 59), .lit (.int .u8 36), .lit (.int .u8 45), .lit (.int .u8 43), .lit (.int .u8 51), .lit (.int .u8 22), .lit (.int .u8 53), .lit (.int .u8 39), .lit (.int .u8 33), .lit (.int .u8 30), .lit (.int .u8 24), .lit (.int .u8 18), .lit (.int .u8 12), .lit (.int .u8 5), .lit (.int .u8 63), .lit (.int .u8 55), .lit (.int .u8 48), .lit (.int .u8 27), .lit (.int .u8 60), .lit (.int .u8 41), .lit (.int .u8 37), .lit (.int .u8 16), .lit (.int .u8 46), .lit (.int .u8 35), .lit (.int .u8 44), .lit (.int .u8 21), .lit (.int .u8 52), .lit (.int .u8 32), .lit (.int .u8 23), .lit (.int .u8 11), .lit (.int .u8 54), .lit (.int .u8 26), .lit (.int .u8 40), .lit (.int .u8 15), .lit (.int .u8 34), .lit (.int .u8 20), .lit (.int .u8 31), .lit (.int .u8 10), .lit (.int .u8 25), .lit (.int .u8 14), .lit (.int .u8 19), .lit (.int .u8 9), .lit (.int .u8 13), .lit (.int .u8 8), .lit (.int .u8 7), .lit (.int .u8 6)]

/-- 'wardmotelaw18.GraphKnown': WHATEVER THE INPUT: true; the input reads as it did. -/
def graphKnownSpec : ChangeSpec := { name := "graphKnown", fn := fun _ => fun
  | [] => { results := [.lit (.bool true)], args := [] }
  | _ => none }
def graphKnownRow : OpenClaim := { program := "ytpclggcpobakhaadoor", sum := "ecdcd60d389ec939371cde576f07bb9087465470d87bcfc52fa703dcdf988328", func := "wardmote/wardmotelaw18.GraphKnown", spec := "graphKnown", unfollowed := true, recurses := true, named := ["math/bits.deBruijn64tab"], plainKeys := false, apart := false, laid := [("math/bits.deBruijn64tab", laid_math_bits_deBruijn64tab)] }
def GraphKnownSaid : Prop := graphKnownRow.holds Tryd.pinned (OpenSpec.ofChange graphKnownSpec)

/-- ITS FALSE NEIGHBOUR: 'it returns false'. Refute it at one input. -/
def graphKnownWrong : ChangeSpec := { name := "graphKnown", fn := fun _ => fun
  | [] => { results := [.lit (.bool false)], args := [] }
  | _ => none }
def GraphKnownWrongFalsely : Prop := graphKnownRow.holds Tryd.pinned (OpenSpec.ofChange graphKnownWrong)

/-- 'wardmotelaw18.GraphParts': WHATEVER THE INPUT: true; the input reads as it did. -/
def graphPartsSpec : ChangeSpec := { name := "graphParts", fn := fun _ => fun
  | [d1, d2, d3] => { results := [.lit (.bool true)], args := [d1, d2, d3] }
  | _ => none }
def graphPartsRow : OpenClaim := { program := "ytpclggcpobakhaadoor", sum := "ecdcd60d389ec939371cde576f07bb9087465470d87bcfc52fa703dcdf988328", func := "wardmote/wardmotelaw18.GraphParts", spec := "graphParts", inPlace := ["slices.overlaps[[2]int]"], unfollowed := true, recurses := true, named := ["math/bits.deBruijn64tab"], plainKeys := false, apart := false, laid := [("math/bits.deBruijn64tab", laid_math_bits_deBruijn64tab)] }
def GraphPartsSaid : Prop := graphPartsRow.holds Tryd.pinned (OpenSpec.ofChange graphPartsSpec)

/-- ITS FALSE NEIGHBOUR: 'it returns false'. Refute it at one input. -/
def graphPartsWrong : ChangeSpec := { name := "graphParts", fn := fun _ => fun
  | [d1, d2, d3] => { results := [.lit (.bool false)], args := [d1, d2, d3] }
  | _ => none }
def GraphPartsWrongFalsely : Prop := graphPartsRow.holds Tryd.pinned (OpenSpec.ofChange graphPartsWrong)

/-- 'wardmotelaw18.GraphCuts': WHATEVER THE INPUT: true; the input reads as it did. -/
def graphCutsSpec : ChangeSpec := { name := "graphCuts", fn := fun _ => fun
  | [d1, d2, d3, d4, d5] => { results := [.lit (.bool true)], args := [d1, d2, d3, d4, d5] }
  | _ => none }
def graphCutsRow : OpenClaim := { program := "ytpclggcpobakhaadoor", sum := "ecdcd60d389ec939371cde576f07bb9087465470d87bcfc52fa703dcdf988328", func := "wardmote/wardmotelaw18.GraphCuts", spec := "graphCuts", inPlace := ["slices.overlaps[[2]int]"], unfollowed := true, recurses := true, named := ["math/bits.deBruijn64tab"], plainKeys := false, apart := false, laid := [("math/bits.deBruijn64tab", laid_math_bits_deBruijn64tab)] }
def GraphCutsSaid : Prop := graphCutsRow.holds Tryd.pinned (OpenSpec.ofChange graphCutsSpec)

/-- ITS FALSE NEIGHBOUR: 'it returns false'. Refute it at one input. -/
def graphCutsWrong : ChangeSpec := { name := "graphCuts", fn := fun _ => fun
  | [d1, d2, d3, d4, d5] => { results := [.lit (.bool false)], args := [d1, d2, d3, d4, d5] }
  | _ => none }
def GraphCutsWrongFalsely : Prop := graphCutsRow.holds Tryd.pinned (OpenSpec.ofChange graphCutsWrong)

/-- 'wardmotelaw18.GraphPartitions': WHATEVER THE INPUT: true; the input reads as it did. -/
def graphPartitionsSpec : ChangeSpec := { name := "graphPartitions", fn := fun _ => fun
  | [d1, d2, d3] => { results := [.lit (.bool true)], args := [d1, d2, d3] }
  | _ => none }
def graphPartitionsRow : OpenClaim := { program := "ytpclggcpobakhaadoor", sum := "ecdcd60d389ec939371cde576f07bb9087465470d87bcfc52fa703dcdf988328", func := "wardmote/wardmotelaw18.GraphPartitions", spec := "graphPartitions", inPlace := ["slices.overlaps[[2]int]"], unfollowed := true, recurses := true, named := ["math/bits.deBruijn64tab"], plainKeys := false, apart := false, laid := [("math/bits.deBruijn64tab", laid_math_bits_deBruijn64tab)] }
def GraphPartitionsSaid : Prop := graphPartitionsRow.holds Tryd.pinned (OpenSpec.ofChange graphPartitionsSpec)

/-- ITS FALSE NEIGHBOUR: 'it returns false'. Refute it at one input. -/
def graphPartitionsWrong : ChangeSpec := { name := "graphPartitions", fn := fun _ => fun
  | [d1, d2, d3] => { results := [.lit (.bool false)], args := [d1, d2, d3] }
  | _ => none }
def GraphPartitionsWrongFalsely : Prop := graphPartitionsRow.holds Tryd.pinned (OpenSpec.ofChange graphPartitionsWrong)

/-- 'wardmotelaw18.GraphChecks': WHATEVER THE INPUT: true; the input reads as it did. -/
def graphChecksSpec : ChangeSpec := { name := "graphChecks", fn := fun _ => fun
  | [d1, d2, d3] => { results := [.lit (.bool true)], args := [d1, d2, d3] }
  | _ => none }
def graphChecksRow : OpenClaim := { program := "ytpclggcpobakhaadoor", sum := "ecdcd60d389ec939371cde576f07bb9087465470d87bcfc52fa703dcdf988328", func := "wardmote/wardmotelaw18.GraphChecks", spec := "graphChecks", inPlace := ["slices.overlaps[[2]int]"], unfollowed := true, recurses := true, named := ["math/bits.deBruijn64tab"], plainKeys := false, apart := false, laid := [("math/bits.deBruijn64tab", laid_math_bits_deBruijn64tab)] }
def GraphChecksSaid : Prop := graphChecksRow.holds Tryd.pinned (OpenSpec.ofChange graphChecksSpec)

/-- ITS FALSE NEIGHBOUR: 'it returns false'. Refute it at one input. -/
def graphChecksWrong : ChangeSpec := { name := "graphChecks", fn := fun _ => fun
  | [d1, d2, d3] => { results := [.lit (.bool false)], args := [d1, d2, d3] }
  | _ => none }
def GraphChecksWrongFalsely : Prop := graphChecksRow.holds Tryd.pinned (OpenSpec.ofChange graphChecksWrong)

/-- 'wardmotelaw18.GraphMakes': WHATEVER THE INPUT: true; the input reads as it did. -/
def graphMakesSpec : ChangeSpec := { name := "graphMakes", fn := fun _ => fun
  | [d1, d2, d3, d4, d5] => { results := [.lit (.bool true)], args := [d1, d2, d3, d4, d5] }
  | _ => none }
def graphMakesRow : OpenClaim := { program := "ytpclggcpobakhaadoor", sum := "ecdcd60d389ec939371cde576f07bb9087465470d87bcfc52fa703dcdf988328", func := "wardmote/wardmotelaw18.GraphMakes", spec := "graphMakes", inPlace := ["slices.overlaps[[2]int]"], unfollowed := true, recurses := true, named := ["math/bits.deBruijn64tab"], plainKeys := false, apart := false, laid := [("math/bits.deBruijn64tab", laid_math_bits_deBruijn64tab)] }
def GraphMakesSaid : Prop := graphMakesRow.holds Tryd.pinned (OpenSpec.ofChange graphMakesSpec)

/-- ITS FALSE NEIGHBOUR: 'it returns false'. Refute it at one input. -/
def graphMakesWrong : ChangeSpec := { name := "graphMakes", fn := fun _ => fun
  | [d1, d2, d3, d4, d5] => { results := [.lit (.bool false)], args := [d1, d2, d3, d4, d5] }
  | _ => none }
def GraphMakesWrongFalsely : Prop := graphMakesRow.holds Tryd.pinned (OpenSpec.ofChange graphMakesWrong)

/-- 'wardmotelaw18.GraphBorders': WHATEVER THE INPUT: true; the input reads as it did. -/
def graphBordersSpec : ChangeSpec := { name := "graphBorders", fn := fun _ => fun
  | [d1, d2, d3] => { results := [.lit (.bool true)], args := [d1, d2, d3] }
  | _ => none }
def graphBordersRow : OpenClaim := { program := "ytpclggcpobakhaadoor", sum := "ecdcd60d389ec939371cde576f07bb9087465470d87bcfc52fa703dcdf988328", func := "wardmote/wardmotelaw18.GraphBorders", spec := "graphBorders", inPlace := ["slices.overlaps[[2]int]"], unfollowed := true, recurses := true, named := ["math/bits.deBruijn64tab"], plainKeys := false, apart := false, laid := [("math/bits.deBruijn64tab", laid_math_bits_deBruijn64tab)] }
def GraphBordersSaid : Prop := graphBordersRow.holds Tryd.pinned (OpenSpec.ofChange graphBordersSpec)

/-- ITS FALSE NEIGHBOUR: 'it returns false'. Refute it at one input. -/
def graphBordersWrong : ChangeSpec := { name := "graphBorders", fn := fun _ => fun
  | [d1, d2, d3] => { results := [.lit (.bool false)], args := [d1, d2, d3] }
  | _ => none }
def GraphBordersWrongFalsely : Prop := graphBordersRow.holds Tryd.pinned (OpenSpec.ofChange graphBordersWrong)

/-- 'wardmotelaw18.GraphTears': WHATEVER THE INPUT: true; the input reads as it did. -/
def graphTearsSpec : ChangeSpec := { name := "graphTears", fn := fun _ => fun
  | [d1, d2, d3] => { results := [.lit (.bool true)], args := [d1, d2, d3] }
  | _ => none }
def graphTearsRow : OpenClaim := { program := "ytpclggcpobakhaadoor", sum := "ecdcd60d389ec939371cde576f07bb9087465470d87bcfc52fa703dcdf988328", func := "wardmote/wardmotelaw18.GraphTears", spec := "graphTears", inPlace := ["slices.overlaps[[2]int]"], unfollowed := true, recurses := true, named := ["math/bits.deBruijn64tab"], plainKeys := false, apart := false, laid := [("math/bits.deBruijn64tab", laid_math_bits_deBruijn64tab)] }
def GraphTearsSaid : Prop := graphTearsRow.holds Tryd.pinned (OpenSpec.ofChange graphTearsSpec)

/-- ITS FALSE NEIGHBOUR: 'it returns false'. Refute it at one input. -/
def graphTearsWrong : ChangeSpec := { name := "graphTears", fn := fun _ => fun
  | [d1, d2, d3] => { results := [.lit (.bool false)], args := [d1, d2, d3] }
  | _ => none }
def GraphTearsWrongFalsely : Prop := graphTearsRow.holds Tryd.pinned (OpenSpec.ofChange graphTearsWrong)

/-- 'wardmotelaw18.GraphWays': WHATEVER THE INPUT: true; the input reads as it did. -/
def graphWaysSpec : ChangeSpec := { name := "graphWays", fn := fun _ => fun
  | [d1, d2, d3, d4] => { results := [.lit (.bool true)], args := [d1, d2, d3, d4] }
  | _ => none }
def graphWaysRow : OpenClaim := { program := "ytpclggcpobakhaadoor", sum := "ecdcd60d389ec939371cde576f07bb9087465470d87bcfc52fa703dcdf988328", func := "wardmote/wardmotelaw18.GraphWays", spec := "graphWays", inPlace := ["slices.overlaps[[2]int]"], unfollowed := true, recurses := true, named := ["math/bits.deBruijn64tab"], plainKeys := false, apart := false, laid := [("math/bits.deBruijn64tab", laid_math_bits_deBruijn64tab)] }
def GraphWaysSaid : Prop := graphWaysRow.holds Tryd.pinned (OpenSpec.ofChange graphWaysSpec)

/-- ITS FALSE NEIGHBOUR: 'it returns false'. Refute it at one input. -/
def graphWaysWrong : ChangeSpec := { name := "graphWays", fn := fun _ => fun
  | [d1, d2, d3, d4] => { results := [.lit (.bool false)], args := [d1, d2, d3, d4] }
  | _ => none }
def GraphWaysWrongFalsely : Prop := graphWaysRow.holds Tryd.pinned (OpenSpec.ofChange graphWaysWrong)

/-- 'wardmotelaw18.GraphShrinks': WHATEVER THE INPUT: true; the input reads as it did. -/
def graphShrinksSpec : ChangeSpec := { name := "graphShrinks", fn := fun _ => fun
  | [d1, d2, d3] => { results := [.lit (.bool true)], args := [d1, d2, d3] }
  | _ => none }
def graphShrinksRow : OpenClaim := { program := "ytpclggcpobakhaadoor", sum := "ecdcd60d389ec939371cde576f07bb9087465470d87bcfc52fa703dcdf988328", func := "wardmote/wardmotelaw18.GraphShrinks", spec := "graphShrinks", inPlace := ["slices.overlaps[[2]int]"], unfollowed := true, recurses := true, named := ["math/bits.deBruijn64tab"], plainKeys := false, apart := false, laid := [("math/bits.deBruijn64tab", laid_math_bits_deBruijn64tab)] }
def GraphShrinksSaid : Prop := graphShrinksRow.holds Tryd.pinned (OpenSpec.ofChange graphShrinksSpec)

/-- ITS FALSE NEIGHBOUR: 'it returns false'. Refute it at one input. -/
def graphShrinksWrong : ChangeSpec := { name := "graphShrinks", fn := fun _ => fun
  | [d1, d2, d3] => { results := [.lit (.bool false)], args := [d1, d2, d3] }
  | _ => none }
def GraphShrinksWrongFalsely : Prop := graphShrinksRow.holds Tryd.pinned (OpenSpec.ofChange graphShrinksWrong)

/- THE SECOND FORM. 'bulk': how many values and letters a reading holds, each counted each time it is reached (what is shared counts as often as it is met; a slice's spare places count too). A statement '..UptoSaid' is the law's where the arguments, and the package variables that the reading takes, are together of bulk at most 1048576: NARROWER than '..Said'. Prove '..Said' where nothing that the law and all that it calls make is longer than what came in: it says more and counts as full. Else prove '..UptoSaid'. A law counts once. -/
mutual
def uptoBulk {H : Type} : DataW H → Nat
  | .lit (.string bytes) => bytes.length + 1
  | .lit _ => 1
  | .nil => 1
  | .ptr d => uptoBulk d + 1
  | .slice elems spare => uptoBulkAll elems + uptoBulkAll spare + 1
  | .agg parts => uptoBulkAll parts + 1
  | .iface _ d => uptoBulk d + 1
  | .map entries => uptoBulkEntries entries + 1
  | .held _ => 1
def uptoBulkAll {H : Type} : List (DataW H) → Nat
  | [] => 0
  | d :: r => uptoBulk d + uptoBulkAll r
def uptoBulkEntries {H : Type} : List (Lit × DataW H) → Nat
  | [] => 0
  | x :: r => uptoBulkEntry x + uptoBulkEntries r
def uptoBulkEntry {H : Type} : Lit × DataW H → Nat
  | (.string bytes, d) => bytes.length + uptoBulk d + 1
  | (_, d) => uptoBulk d + 1
 end
def uptoSmall : (H : Type) → List (DataW H) → Bool := fun _ ds => decide (uptoBulkAll ds ≤ 1048576)
def OpenSpec.upto (s : _root_.Go.ChangeSpec) : _root_.Go.OpenSpec := { _root_.Go.OpenSpec.ofChange s with cond := some uptoSmall }

/-- 'wardmotelaw18.GraphKnown', WHERE WHAT IT READS IS OF BULK AT MOST 1048576: true; the input reads as it did. -/
def graphKnownUptoRow : OpenClaim := { program := "ytpclggcpobakhaadoor", sum := "ecdcd60d389ec939371cde576f07bb9087465470d87bcfc52fa703dcdf988328", func := "wardmote/wardmotelaw18.GraphKnown", spec := "graphKnown", unfollowed := true, recurses := true, named := ["math/bits.deBruijn64tab"], plainKeys := false, apart := false, laid := [("math/bits.deBruijn64tab", laid_math_bits_deBruijn64tab)], narrowed := true }
def GraphKnownUptoSaid : Prop := graphKnownUptoRow.holds Tryd.pinned (OpenSpec.upto graphKnownSpec)

/-- 'wardmotelaw18.GraphParts', WHERE WHAT IT READS IS OF BULK AT MOST 1048576: true; the input reads as it did. -/
def graphPartsUptoRow : OpenClaim := { program := "ytpclggcpobakhaadoor", sum := "ecdcd60d389ec939371cde576f07bb9087465470d87bcfc52fa703dcdf988328", func := "wardmote/wardmotelaw18.GraphParts", spec := "graphParts", inPlace := ["slices.overlaps[[2]int]"], unfollowed := true, recurses := true, named := ["math/bits.deBruijn64tab"], plainKeys := false, apart := false, laid := [("math/bits.deBruijn64tab", laid_math_bits_deBruijn64tab)], narrowed := true }
def GraphPartsUptoSaid : Prop := graphPartsUptoRow.holds Tryd.pinned (OpenSpec.upto graphPartsSpec)

/-- 'wardmotelaw18.GraphCuts', WHERE WHAT IT READS IS OF BULK AT MOST 1048576: true; the input reads as it did. -/
def graphCutsUptoRow : OpenClaim := { program := "ytpclggcpobakhaadoor", sum := "ecdcd60d389ec939371cde576f07bb9087465470d87bcfc52fa703dcdf988328", func := "wardmote/wardmotelaw18.GraphCuts", spec := "graphCuts", inPlace := ["slices.overlaps[[2]int]"], unfollowed := true, recurses := true, named := ["math/bits.deBruijn64tab"], plainKeys := false, apart := false, laid := [("math/bits.deBruijn64tab", laid_math_bits_deBruijn64tab)], narrowed := true }
def GraphCutsUptoSaid : Prop := graphCutsUptoRow.holds Tryd.pinned (OpenSpec.upto graphCutsSpec)

/-- 'wardmotelaw18.GraphPartitions', WHERE WHAT IT READS IS OF BULK AT MOST 1048576: true; the input reads as it did. -/
def graphPartitionsUptoRow : OpenClaim := { program := "ytpclggcpobakhaadoor", sum := "ecdcd60d389ec939371cde576f07bb9087465470d87bcfc52fa703dcdf988328", func := "wardmote/wardmotelaw18.GraphPartitions", spec := "graphPartitions", inPlace := ["slices.overlaps[[2]int]"], unfollowed := true, recurses := true, named := ["math/bits.deBruijn64tab"], plainKeys := false, apart := false, laid := [("math/bits.deBruijn64tab", laid_math_bits_deBruijn64tab)], narrowed := true }
def GraphPartitionsUptoSaid : Prop := graphPartitionsUptoRow.holds Tryd.pinned (OpenSpec.upto graphPartitionsSpec)

/-- 'wardmotelaw18.GraphChecks', WHERE WHAT IT READS IS OF BULK AT MOST 1048576: true; the input reads as it did. -/
def graphChecksUptoRow : OpenClaim := { program := "ytpclggcpobakhaadoor", sum := "ecdcd60d389ec939371cde576f07bb9087465470d87bcfc52fa703dcdf988328", func := "wardmote/wardmotelaw18.GraphChecks", spec := "graphChecks", inPlace := ["slices.overlaps[[2]int]"], unfollowed := true, recurses := true, named := ["math/bits.deBruijn64tab"], plainKeys := false, apart := false, laid := [("math/bits.deBruijn64tab", laid_math_bits_deBruijn64tab)], narrowed := true }
def GraphChecksUptoSaid : Prop := graphChecksUptoRow.holds Tryd.pinned (OpenSpec.upto graphChecksSpec)

/-- 'wardmotelaw18.GraphMakes', WHERE WHAT IT READS IS OF BULK AT MOST 1048576: true; the input reads as it did. -/
def graphMakesUptoRow : OpenClaim := { program := "ytpclggcpobakhaadoor", sum := "ecdcd60d389ec939371cde576f07bb9087465470d87bcfc52fa703dcdf988328", func := "wardmote/wardmotelaw18.GraphMakes", spec := "graphMakes", inPlace := ["slices.overlaps[[2]int]"], unfollowed := true, recurses := true, named := ["math/bits.deBruijn64tab"], plainKeys := false, apart := false, laid := [("math/bits.deBruijn64tab", laid_math_bits_deBruijn64tab)], narrowed := true }
def GraphMakesUptoSaid : Prop := graphMakesUptoRow.holds Tryd.pinned (OpenSpec.upto graphMakesSpec)

/-- 'wardmotelaw18.GraphBorders', WHERE WHAT IT READS IS OF BULK AT MOST 1048576: true; the input reads as it did. -/
def graphBordersUptoRow : OpenClaim := { program := "ytpclggcpobakhaadoor", sum := "ecdcd60d389ec939371cde576f07bb9087465470d87bcfc52fa703dcdf988328", func := "wardmote/wardmotelaw18.GraphBorders", spec := "graphBorders", inPlace := ["slices.overlaps[[2]int]"], unfollowed := true, recurses := true, named := ["math/bits.deBruijn64tab"], plainKeys := false, apart := false, laid := [("math/bits.deBruijn64tab", laid_math_bits_deBruijn64tab)], narrowed := true }
def GraphBordersUptoSaid : Prop := graphBordersUptoRow.holds Tryd.pinned (OpenSpec.upto graphBordersSpec)

/-- 'wardmotelaw18.GraphTears', WHERE WHAT IT READS IS OF BULK AT MOST 1048576: true; the input reads as it did. -/
def graphTearsUptoRow : OpenClaim := { program := "ytpclggcpobakhaadoor", sum := "ecdcd60d389ec939371cde576f07bb9087465470d87bcfc52fa703dcdf988328", func := "wardmote/wardmotelaw18.GraphTears", spec := "graphTears", inPlace := ["slices.overlaps[[2]int]"], unfollowed := true, recurses := true, named := ["math/bits.deBruijn64tab"], plainKeys := false, apart := false, laid := [("math/bits.deBruijn64tab", laid_math_bits_deBruijn64tab)], narrowed := true }
def GraphTearsUptoSaid : Prop := graphTearsUptoRow.holds Tryd.pinned (OpenSpec.upto graphTearsSpec)

/-- 'wardmotelaw18.GraphWays', WHERE WHAT IT READS IS OF BULK AT MOST 1048576: true; the input reads as it did. -/
def graphWaysUptoRow : OpenClaim := { program := "ytpclggcpobakhaadoor", sum := "ecdcd60d389ec939371cde576f07bb9087465470d87bcfc52fa703dcdf988328", func := "wardmote/wardmotelaw18.GraphWays", spec := "graphWays", inPlace := ["slices.overlaps[[2]int]"], unfollowed := true, recurses := true, named := ["math/bits.deBruijn64tab"], plainKeys := false, apart := false, laid := [("math/bits.deBruijn64tab", laid_math_bits_deBruijn64tab)], narrowed := true }
def GraphWaysUptoSaid : Prop := graphWaysUptoRow.holds Tryd.pinned (OpenSpec.upto graphWaysSpec)

/-- 'wardmotelaw18.GraphShrinks', WHERE WHAT IT READS IS OF BULK AT MOST 1048576: true; the input reads as it did. -/
def graphShrinksUptoRow : OpenClaim := { program := "ytpclggcpobakhaadoor", sum := "ecdcd60d389ec939371cde576f07bb9087465470d87bcfc52fa703dcdf988328", func := "wardmote/wardmotelaw18.GraphShrinks", spec := "graphShrinks", inPlace := ["slices.overlaps[[2]int]"], unfollowed := true, recurses := true, named := ["math/bits.deBruijn64tab"], plainKeys := false, apart := false, laid := [("math/bits.deBruijn64tab", laid_math_bits_deBruijn64tab)], narrowed := true }
def GraphShrinksUptoSaid : Prop := graphShrinksUptoRow.holds Tryd.pinned (OpenSpec.upto graphShrinksSpec)

end Rows
end Go.Proofs.YtpclggcpobakhaaDoor
