/-
  NARROWER THAN 'FOR EVERY INPUT', by the rows' own cells (each row's printed sentence says how): KernelReaches: laid · KernelClasses: laid · KernelTurns: laid · KernelAfters: laid · KernelFilters: laid · KernelPlans: laid · KernelKnown: laid · KernelSums: laid.
  DERIVED. THE GIVEN ROWS OF THIS SEAT. 8 by the template 'for every input the law returns true; each argument reads behind the call as it read before'; 0 by the template 'total and deterministic' (their statements: YtpkadoocdgdcfaaGreatDoorTotals.lean).
  GIVEN WITH THE SEED: the statements are not yours to turn. If you find one false, say at which input.
  Laid BY PROGRAM, IN A SANDBOX (cutbox-rows.mjs): the forced cells as the released guide's own fill.sh prints them over the translation 7f1f1c732056bc31… (all of the seat's roots in one cut). By AI agents, Wed Nov 11 2026. No macro, syntax, notation, axiom, sorry.
-/
import Derived.Test.YtpkadoocdgdcfaaGreatDoorChecked
import GoSem.Claim
import GoSem.ClaimJoined
import GoSem.ClaimMapViews
import Derived.JoinedTies
import Derived.KernelRfl
namespace Go.Proofs.YtpkadoocdgdcfaaGreatDoor
/- THE CELL 'sum', in the pinned program and in every row, IS THE sha256 OF THE DUMP (.gsa) THAT YtpkadoocdgdcfaaGreatDoorProg.lean LOADS. Nothing in Lean hashes anything: it is a label: what it is worth is what the hold of that sum in a sandbox is worth. -/
noncomputable def Tryz.pinned : Pinned := { name := "ytpkadoocdgdcfaagreatdoor", sum := "7f1f1c732056bc313a7e29ebd205f47991b2d98b9902c2c54ebba92fba3241c6", checked := Tryz.checked }
namespace Rows
def none {H : Type} : Left H := { results := [], args := [] }

/- WHAT THE LISTED PACKAGE-LEVEL VARIABLES READ AS WHEN THE CALL BEGINS. Each datum BY PROGRAM (the guide's laid-datum.mjs) off the statement by which the dump's own 'gosem.cut.vars' lays the variable. In a bare row this is a premise. The card (YtpkadoocdgdcfaaGreatDoorCards.lean) ties it to the program's text. -/
def laid_math_bits_deBruijn64tab {H : Type} : DataW H := .agg [.lit (.int .u8 0), .lit (.int .u8 1), .lit (.int .u8 56), .lit (.int .u8 2), .lit (.int .u8 57), .lit (.int .u8 49), .lit (.int .u8 28), .lit (.int .u8 3), .lit (.int .u8 61), .lit (.int .u8 58), .lit (.int .u8 42), .lit (.int .u8 50), .lit (.int .u8 38), .lit (.int .u8 29), .lit (.int .u8 17), .lit (.int .u8 4), .lit (.int .u8 62), .lit (.int .u8 47), .lit (.int .u8 59), .lit (.int .u8 36), .lit (.int .u8 45), .lit (.int .u8 43), .lit (.int .u8 51), .lit (.int .u8 22), .lit (.int .u8 53), .lit (.int .u8 39), .lit (.int .u8 33), .lit (.int .u8 30), .lit (.int .u8 24), .lit (.int .u8 18), .lit (.int .u8 12), .lit (.int .u8 5), .lit (.int .u8 63), .lit (.int .u8 55), .lit (.int .u8 48), .lit (.int .u8 27), .lit (.int .u8 60), .lit (.int .u8 41), .lit (.int .u8 37), .lit (.int .u8 16), .lit (.int .u8 46), .lit (.int .u8 35), .lit (.int .u8 44), .lit (.int .u8 21), .lit (.int .u8 52), .lit (.int .u8 32), .lit (.int .u8 23), .lit (.int .u8 11), .lit (.int .u8 54), .lit (.int .u8 26), .lit (.int .u8 40), .lit (.int .u8 15), .lit (.int .u8 34), .lit (.int .u8 20), .lit (.int .u8 31), .lit (.int .u8 10), .lit (.int .u8 25), .lit (.int .u8 14), .lit (.int .u8 19), .lit (.int .u8 9), .lit (.int .u8 13), .lit (.int .u8 8), .lit (.int .u8 7), .lit (.int .u8 6)]

/-- 'wardmotelaw33.KernelReaches': WHATEVER THE INPUT: true; the input reads as it did. -/
def kernelReachesSpec : ChangeSpec := { name := "kernelReaches", fn := fun _ => fun
  | [d1, d2, d3] => { results := [.lit (.bool true)], args := [d1, d2, d3] }
  | _ => none }
def kernelReachesRow : OpenClaim := { program := "ytpkadoocdgdcfaagreatdoor", sum := "7f1f1c732056bc313a7e29ebd205f47991b2d98b9902c2c54ebba92fba3241c6", func := "wardmote/wardmotelaw33.KernelReaches", spec := "kernelReaches", inPlace := ["math/bits.Sub64", "math/bits.Add64"], unfollowed := true, recurses := true, named := ["math/bits.divideError", "math/bits.overflowError", "math/bits.deBruijn64tab"], plainKeys := false, apart := false, laid := [("math/bits.deBruijn64tab", laid_math_bits_deBruijn64tab)] }
def KernelReachesSaid : Prop := kernelReachesRow.holds Tryz.pinned (OpenSpec.ofChange kernelReachesSpec)

/-- ITS FALSE NEIGHBOUR: 'it returns false'. Refute it at one input. -/
def kernelReachesWrong : ChangeSpec := { name := "kernelReaches", fn := fun _ => fun
  | [d1, d2, d3] => { results := [.lit (.bool false)], args := [d1, d2, d3] }
  | _ => none }
def KernelReachesWrongFalsely : Prop := kernelReachesRow.holds Tryz.pinned (OpenSpec.ofChange kernelReachesWrong)

/-- 'wardmotelaw33.KernelClasses': WHATEVER THE INPUT: true; the input reads as it did. -/
def kernelClassesSpec : ChangeSpec := { name := "kernelClasses", fn := fun _ => fun
  | [d] => { results := [.lit (.bool true)], args := [d] }
  | _ => none }
def kernelClassesRow : OpenClaim := { program := "ytpkadoocdgdcfaagreatdoor", sum := "7f1f1c732056bc313a7e29ebd205f47991b2d98b9902c2c54ebba92fba3241c6", func := "wardmote/wardmotelaw33.KernelClasses", spec := "kernelClasses", inPlace := ["math/bits.Sub64", "math/bits.Add64"], unfollowed := true, recurses := true, named := ["math/bits.divideError", "math/bits.overflowError", "math/bits.deBruijn64tab"], plainKeys := false, apart := false, laid := [("math/bits.deBruijn64tab", laid_math_bits_deBruijn64tab)] }
def KernelClassesSaid : Prop := kernelClassesRow.holds Tryz.pinned (OpenSpec.ofChange kernelClassesSpec)

/-- ITS FALSE NEIGHBOUR: 'it returns false'. Refute it at one input. -/
def kernelClassesWrong : ChangeSpec := { name := "kernelClasses", fn := fun _ => fun
  | [d] => { results := [.lit (.bool false)], args := [d] }
  | _ => none }
def KernelClassesWrongFalsely : Prop := kernelClassesRow.holds Tryz.pinned (OpenSpec.ofChange kernelClassesWrong)

/-- 'wardmotelaw33.KernelTurns': WHATEVER THE INPUT: true; the input reads as it did. -/
def kernelTurnsSpec : ChangeSpec := { name := "kernelTurns", fn := fun _ => fun
  | [d1, d2, d3, d4, d5] => { results := [.lit (.bool true)], args := [d1, d2, d3, d4, d5] }
  | _ => none }
def kernelTurnsRow : OpenClaim := { program := "ytpkadoocdgdcfaagreatdoor", sum := "7f1f1c732056bc313a7e29ebd205f47991b2d98b9902c2c54ebba92fba3241c6", func := "wardmote/wardmotelaw33.KernelTurns", spec := "kernelTurns", inPlace := ["math/bits.Sub64", "math/bits.Add64"], unfollowed := true, recurses := true, named := ["math/bits.divideError", "math/bits.overflowError", "math/bits.deBruijn64tab"], plainKeys := false, apart := false, laid := [("math/bits.deBruijn64tab", laid_math_bits_deBruijn64tab)] }
def KernelTurnsSaid : Prop := kernelTurnsRow.holds Tryz.pinned (OpenSpec.ofChange kernelTurnsSpec)

/-- ITS FALSE NEIGHBOUR: 'it returns false'. Refute it at one input. -/
def kernelTurnsWrong : ChangeSpec := { name := "kernelTurns", fn := fun _ => fun
  | [d1, d2, d3, d4, d5] => { results := [.lit (.bool false)], args := [d1, d2, d3, d4, d5] }
  | _ => none }
def KernelTurnsWrongFalsely : Prop := kernelTurnsRow.holds Tryz.pinned (OpenSpec.ofChange kernelTurnsWrong)

/-- 'wardmotelaw33.KernelAfters': WHATEVER THE INPUT: true; the input reads as it did. -/
def kernelAftersSpec : ChangeSpec := { name := "kernelAfters", fn := fun _ => fun
  | [d1, d2, d3, d4, d5] => { results := [.lit (.bool true)], args := [d1, d2, d3, d4, d5] }
  | _ => none }
def kernelAftersRow : OpenClaim := { program := "ytpkadoocdgdcfaagreatdoor", sum := "7f1f1c732056bc313a7e29ebd205f47991b2d98b9902c2c54ebba92fba3241c6", func := "wardmote/wardmotelaw33.KernelAfters", spec := "kernelAfters", inPlace := ["math/bits.Sub64", "math/bits.Add64"], unfollowed := true, recurses := true, named := ["math/bits.divideError", "math/bits.overflowError", "math/bits.deBruijn64tab"], plainKeys := false, apart := false, laid := [("math/bits.deBruijn64tab", laid_math_bits_deBruijn64tab)] }
def KernelAftersSaid : Prop := kernelAftersRow.holds Tryz.pinned (OpenSpec.ofChange kernelAftersSpec)

/-- ITS FALSE NEIGHBOUR: 'it returns false'. Refute it at one input. -/
def kernelAftersWrong : ChangeSpec := { name := "kernelAfters", fn := fun _ => fun
  | [d1, d2, d3, d4, d5] => { results := [.lit (.bool false)], args := [d1, d2, d3, d4, d5] }
  | _ => none }
def KernelAftersWrongFalsely : Prop := kernelAftersRow.holds Tryz.pinned (OpenSpec.ofChange kernelAftersWrong)

/-- 'wardmotelaw33.KernelFilters': WHATEVER THE INPUT: true; the input reads as it did. -/
def kernelFiltersSpec : ChangeSpec := { name := "kernelFilters", fn := fun _ => fun
  | [d1, d2] => { results := [.lit (.bool true)], args := [d1, d2] }
  | _ => none }
def kernelFiltersRow : OpenClaim := { program := "ytpkadoocdgdcfaagreatdoor", sum := "7f1f1c732056bc313a7e29ebd205f47991b2d98b9902c2c54ebba92fba3241c6", func := "wardmote/wardmotelaw33.KernelFilters", spec := "kernelFilters", inPlace := ["math/bits.Sub64", "math/bits.Add64"], unfollowed := true, recurses := true, named := ["math/bits.divideError", "math/bits.overflowError", "math/bits.deBruijn64tab"], plainKeys := false, apart := false, laid := [("math/bits.deBruijn64tab", laid_math_bits_deBruijn64tab)] }
def KernelFiltersSaid : Prop := kernelFiltersRow.holds Tryz.pinned (OpenSpec.ofChange kernelFiltersSpec)

/-- ITS FALSE NEIGHBOUR: 'it returns false'. Refute it at one input. -/
def kernelFiltersWrong : ChangeSpec := { name := "kernelFilters", fn := fun _ => fun
  | [d1, d2] => { results := [.lit (.bool false)], args := [d1, d2] }
  | _ => none }
def KernelFiltersWrongFalsely : Prop := kernelFiltersRow.holds Tryz.pinned (OpenSpec.ofChange kernelFiltersWrong)

/-- 'wardmotelaw33.KernelPlans': WHATEVER THE INPUT: true; the input reads as it did. -/
def kernelPlansSpec : ChangeSpec := { name := "kernelPlans", fn := fun _ => fun
  | [d1, d2, d3, d4] => { results := [.lit (.bool true)], args := [d1, d2, d3, d4] }
  | _ => none }
def kernelPlansRow : OpenClaim := { program := "ytpkadoocdgdcfaagreatdoor", sum := "7f1f1c732056bc313a7e29ebd205f47991b2d98b9902c2c54ebba92fba3241c6", func := "wardmote/wardmotelaw33.KernelPlans", spec := "kernelPlans", inPlace := ["math/bits.Sub64", "math/bits.Add64"], unfollowed := true, recurses := true, named := ["math/bits.divideError", "math/bits.overflowError", "math/bits.deBruijn64tab"], plainKeys := false, apart := false, laid := [("math/bits.deBruijn64tab", laid_math_bits_deBruijn64tab)] }
def KernelPlansSaid : Prop := kernelPlansRow.holds Tryz.pinned (OpenSpec.ofChange kernelPlansSpec)

/-- ITS FALSE NEIGHBOUR: 'it returns false'. Refute it at one input. -/
def kernelPlansWrong : ChangeSpec := { name := "kernelPlans", fn := fun _ => fun
  | [d1, d2, d3, d4] => { results := [.lit (.bool false)], args := [d1, d2, d3, d4] }
  | _ => none }
def KernelPlansWrongFalsely : Prop := kernelPlansRow.holds Tryz.pinned (OpenSpec.ofChange kernelPlansWrong)

/-- 'wardmotelaw33.KernelKnown': WHATEVER THE INPUT: true; the input reads as it did. -/
def kernelKnownSpec : ChangeSpec := { name := "kernelKnown", fn := fun _ => fun
  | [] => { results := [.lit (.bool true)], args := [] }
  | _ => none }
def kernelKnownRow : OpenClaim := { program := "ytpkadoocdgdcfaagreatdoor", sum := "7f1f1c732056bc313a7e29ebd205f47991b2d98b9902c2c54ebba92fba3241c6", func := "wardmote/wardmotelaw33.KernelKnown", spec := "kernelKnown", inPlace := ["math/bits.Sub64", "math/bits.Add64"], unfollowed := true, recurses := true, named := ["math/bits.divideError", "math/bits.overflowError", "math/bits.deBruijn64tab"], plainKeys := false, apart := false, laid := [("math/bits.deBruijn64tab", laid_math_bits_deBruijn64tab)] }
def KernelKnownSaid : Prop := kernelKnownRow.holds Tryz.pinned (OpenSpec.ofChange kernelKnownSpec)

/-- ITS FALSE NEIGHBOUR: 'it returns false'. Refute it at one input. -/
def kernelKnownWrong : ChangeSpec := { name := "kernelKnown", fn := fun _ => fun
  | [] => { results := [.lit (.bool false)], args := [] }
  | _ => none }
def KernelKnownWrongFalsely : Prop := kernelKnownRow.holds Tryz.pinned (OpenSpec.ofChange kernelKnownWrong)

/-- 'wardmotelaw33.KernelSums': WHATEVER THE INPUT: true; the input reads as it did. -/
def kernelSumsSpec : ChangeSpec := { name := "kernelSums", fn := fun _ => fun
  | [d1, d2, d3] => { results := [.lit (.bool true)], args := [d1, d2, d3] }
  | _ => none }
def kernelSumsRow : OpenClaim := { program := "ytpkadoocdgdcfaagreatdoor", sum := "7f1f1c732056bc313a7e29ebd205f47991b2d98b9902c2c54ebba92fba3241c6", func := "wardmote/wardmotelaw33.KernelSums", spec := "kernelSums", inPlace := ["math/bits.Sub64", "math/bits.Add64"], unfollowed := true, recurses := true, named := ["math/bits.divideError", "math/bits.overflowError", "math/bits.deBruijn64tab"], plainKeys := false, apart := false, laid := [("math/bits.deBruijn64tab", laid_math_bits_deBruijn64tab)] }
def KernelSumsSaid : Prop := kernelSumsRow.holds Tryz.pinned (OpenSpec.ofChange kernelSumsSpec)

/-- ITS FALSE NEIGHBOUR: 'it returns false'. Refute it at one input. -/
def kernelSumsWrong : ChangeSpec := { name := "kernelSums", fn := fun _ => fun
  | [d1, d2, d3] => { results := [.lit (.bool false)], args := [d1, d2, d3] }
  | _ => none }
def KernelSumsWrongFalsely : Prop := kernelSumsRow.holds Tryz.pinned (OpenSpec.ofChange kernelSumsWrong)

/- THE SECOND FORM. 'bulk': how many values and letters a reading holds, each counted each time it is reached (what is shared counts as often as it is met; a slice's spare places count too). A statement '..UptoSaid' is the law's where the arguments, and the package variables that the reading takes, are together of bulk at most 1048576: NARROWER than '..Said'. Prove '..Said' where nothing that the law and all that it calls make is longer than what came in: it says more and counts as full. Else prove '..UptoSaid'. A law counts once. -/
mutual
def uptoBulk {H : Type} : DataW H → Nat
  | .lit (.string bytes) => bytes.length + 1
  | .lit _ => 1
  | .nil => 1
  | .ptr d => uptoBulk d + 1
  | .slice elems spare => uptoBulkAll elems + uptoBulkAll spare + 1
  | .agg parts => uptoBulkAll parts + 1
  | .iface _ d => uptoBulk d + 1
  | .map entries => uptoBulkEntries entries + 1
  | .held _ => 1
def uptoBulkAll {H : Type} : List (DataW H) → Nat
  | [] => 0
  | d :: r => uptoBulk d + uptoBulkAll r
def uptoBulkEntries {H : Type} : List (Lit × DataW H) → Nat
  | [] => 0
  | x :: r => uptoBulkEntry x + uptoBulkEntries r
def uptoBulkEntry {H : Type} : Lit × DataW H → Nat
  | (.string bytes, d) => bytes.length + uptoBulk d + 1
  | (_, d) => uptoBulk d + 1
 end
def uptoSmall : (H : Type) → List (DataW H) → Bool := fun _ ds => decide (uptoBulkAll ds ≤ 1048576)
def OpenSpec.upto (s : _root_.Go.ChangeSpec) : _root_.Go.OpenSpec := { _root_.Go.OpenSpec.ofChange s with cond := some uptoSmall }

/-- 'wardmotelaw33.KernelReaches', WHERE WHAT IT READS IS OF BULK AT MOST 1048576: true; the input reads as it did. -/
def kernelReachesUptoRow : OpenClaim := { program := "ytpkadoocdgdcfaagreatdoor", sum := "7f1f1c732056bc313a7e29ebd205f47991b2d98b9902c2c54ebba92fba3241c6", func := "wardmote/wardmotelaw33.KernelReaches", spec := "kernelReaches", inPlace := ["math/bits.Sub64", "math/bits.Add64"], unfollowed := true, recurses := true, named := ["math/bits.divideError", "math/bits.overflowError", "math/bits.deBruijn64tab"], plainKeys := false, apart := false, laid := [("math/bits.deBruijn64tab", laid_math_bits_deBruijn64tab)], narrowed := true }
def KernelReachesUptoSaid : Prop := kernelReachesUptoRow.holds Tryz.pinned (OpenSpec.upto kernelReachesSpec)

/-- 'wardmotelaw33.KernelClasses', WHERE WHAT IT READS IS OF BULK AT MOST 1048576: true; the input reads as it did. -/
def kernelClassesUptoRow : OpenClaim := { program := "ytpkadoocdgdcfaagreatdoor", sum := "7f1f1c732056bc313a7e29ebd205f47991b2d98b9902c2c54ebba92fba3241c6", func := "wardmote/wardmotelaw33.KernelClasses", spec := "kernelClasses", inPlace := ["math/bits.Sub64", "math/bits.Add64"], unfollowed := true, recurses := true, named := ["math/bits.divideError", "math/bits.overflowError", "math/bits.deBruijn64tab"], plainKeys := false, apart := false, laid := [("math/bits.deBruijn64tab", laid_math_bits_deBruijn64tab)], narrowed := true }
def KernelClassesUptoSaid : Prop := kernelClassesUptoRow.holds Tryz.pinned (OpenSpec.upto kernelClassesSpec)

/-- 'wardmotelaw33.KernelTurns', WHERE WHAT IT READS IS OF BULK AT MOST 1048576: true; the input reads as it did. -/
def kernelTurnsUptoRow : OpenClaim := { program := "ytpkadoocdgdcfaagreatdoor", sum := "7f1f1c732056bc313a7e29ebd205f47991b2d98b9902c2c54ebba92fba3241c6", func := "wardmote/wardmotelaw33.KernelTurns", spec := "kernelTurns", inPlace := ["math/bits.Sub64", "math/bits.Add64"], unfollowed := true, recurses := true, named := ["math/bits.divideError", "math/bits.overflowError", "math/bits.deBruijn64tab"], plainKeys := false, apart := false, laid := [("math/bits.deBruijn64tab", laid_math_bits_deBruijn64tab)], narrowed := true }
def KernelTurnsUptoSaid : Prop := kernelTurnsUptoRow.holds Tryz.pinned (OpenSpec.upto kernelTurnsSpec)

/-- 'wardmotelaw33.KernelAfters', WHERE WHAT IT READS IS OF BULK AT MOST 1048576: true; the input reads as it did. -/
def kernelAftersUptoRow : OpenClaim := { program := "ytpkadoocdgdcfaagreatdoor", sum := "7f1f1c732056bc313a7e29ebd205f47991b2d98b9902c2c54ebba92fba3241c6", func := "wardmote/wardmotelaw33.KernelAfters", spec := "kernelAfters", inPlace := ["math/bits.Sub64", "math/bits.Add64"], unfollowed := true, recurses := true, named := ["math/bits.divideError", "math/bits.overflowError", "math/bits.deBruijn64tab"], plainKeys := false, apart := false, laid := [("math/bits.deBruijn64tab", laid_math_bits_deBruijn64tab)], narrowed := true }
def KernelAftersUptoSaid : Prop := kernelAftersUptoRow.holds Tryz.pinned (OpenSpec.upto kernelAftersSpec)

/-- 'wardmotelaw33.KernelFilters', WHERE WHAT IT READS IS OF BULK AT MOST 1048576: true; the input reads as it did. -/
def kernelFiltersUptoRow : OpenClaim := { program := "ytpkadoocdgdcfaagreatdoor", sum := "7f1f1c732056bc313a7e29ebd205f47991b2d98b9902c2c54ebba92fba3241c6", func := "wardmote/wardmotelaw33.KernelFilters", spec := "kernelFilters", inPlace := ["math/bits.Sub64", "math/bits.Add64"], unfollowed := true, recurses := true, named := ["math/bits.divideError", "math/bits.overflowError", "math/bits.deBruijn64tab"], plainKeys := false, apart := false, laid := [("math/bits.deBruijn64tab", laid_math_bits_deBruijn64tab)], narrowed := true }
def KernelFiltersUptoSaid : Prop := kernelFiltersUptoRow.holds Tryz.pinned (OpenSpec.upto kernelFiltersSpec)

/-- 'wardmotelaw33.KernelPlans', WHERE WHAT IT READS IS OF BULK AT MOST 1048576: true; the input reads as it did. -/
def kernelPlansUptoRow : OpenClaim := { program := "ytpkadoocdgdcfaagreatdoor", sum := "7f1f1c732056bc313a7e29ebd205f47991b2d98b9902c2c54ebba92fba3241c6", func := "wardmote/wardmotelaw33.KernelPlans", spec := "kernelPlans", inPlace := ["math/bits.Sub64", "math/bits.Add64"], unfollowed := true, recurses := true, named := ["math/bits.divideError", "math/bits.overflowError", "math/bits.deBruijn64tab"], plainKeys := false, apart := false, laid := [("math/bits.deBruijn64tab", laid_math_bits_deBruijn64tab)], narrowed := true }
def KernelPlansUptoSaid : Prop := kernelPlansUptoRow.holds Tryz.pinned (OpenSpec.upto kernelPlansSpec)

/-- 'wardmotelaw33.KernelKnown', WHERE WHAT IT READS IS OF BULK AT MOST 1048576: true; the input reads as it did. -/
def kernelKnownUptoRow : OpenClaim := { program := "ytpkadoocdgdcfaagreatdoor", sum := "7f1f1c732056bc313a7e29ebd205f47991b2d98b9902c2c54ebba92fba3241c6", func := "wardmote/wardmotelaw33.KernelKnown", spec := "kernelKnown", inPlace := ["math/bits.Sub64", "math/bits.Add64"], unfollowed := true, recurses := true, named := ["math/bits.divideError", "math/bits.overflowError", "math/bits.deBruijn64tab"], plainKeys := false, apart := false, laid := [("math/bits.deBruijn64tab", laid_math_bits_deBruijn64tab)], narrowed := true }
def KernelKnownUptoSaid : Prop := kernelKnownUptoRow.holds Tryz.pinned (OpenSpec.upto kernelKnownSpec)

/-- 'wardmotelaw33.KernelSums', WHERE WHAT IT READS IS OF BULK AT MOST 1048576: true; the input reads as it did. -/
def kernelSumsUptoRow : OpenClaim := { program := "ytpkadoocdgdcfaagreatdoor", sum := "7f1f1c732056bc313a7e29ebd205f47991b2d98b9902c2c54ebba92fba3241c6", func := "wardmote/wardmotelaw33.KernelSums", spec := "kernelSums", inPlace := ["math/bits.Sub64", "math/bits.Add64"], unfollowed := true, recurses := true, named := ["math/bits.divideError", "math/bits.overflowError", "math/bits.deBruijn64tab"], plainKeys := false, apart := false, laid := [("math/bits.deBruijn64tab", laid_math_bits_deBruijn64tab)], narrowed := true }
def KernelSumsUptoSaid : Prop := kernelSumsUptoRow.holds Tryz.pinned (OpenSpec.upto kernelSumsSpec)

end Rows
end Go.Proofs.YtpkadoocdgdcfaaGreatDoor
