/-
  No cell of these rows narrows 'for every input' (looked for: loops, veiled, ifaces, maps, wideKeys, modest, calm, conditions, laid).
  DERIVED. THE GIVEN ROWS OF THIS SEAT. 9 by the template 'for every input the law returns true; each argument reads behind the call as it read before'; 0 by the template 'total and deterministic' (their statements: YthmekkhpddehjaaGreatTotals.lean).
  GIVEN WITH THE SEED: the statements are not yours to turn. If you find one false, say at which input.
  Laid BY PROGRAM, IN A SANDBOX (cutbox-rows.mjs): the forced cells as the released guide's own fill.sh prints them over the translation 91459b733e351963… (all of the seat's roots in one cut). By AI agents, Wed Nov 11 2026. No macro, syntax, notation, axiom, sorry.
-/
import Derived.Test.YthmekkhpddehjaaGreatChecked
import GoSem.Claim
import GoSem.ClaimJoined
import GoSem.ClaimMapViews
import Derived.JoinedTies
import Derived.KernelRfl
namespace Go.Proofs.YthmekkhpddehjaaGreat
/- THE CELL 'sum', in the pinned program and in every row, IS THE sha256 OF THE DUMP (.gsa) THAT YthmekkhpddehjaaGreatProg.lean LOADS. Nothing in Lean hashes anything: it is a label: what it is worth is what the hold of that sum in a sandbox is worth. -/
noncomputable def Tryz.pinned : Pinned := { name := "ythmekkhpddehjaagreat", sum := "91459b733e351963c807127e98e8fc0cb7499cf9162885d3189c6a509f873de9", checked := Tryz.checked }
namespace Rows
def none {H : Type} : Left H := { results := [], args := [] }

/-- 'wardmotelaw14.RingHulls': WHATEVER THE INPUT: true; the input reads as it did. -/
def ringHullsSpec : ChangeSpec := { name := "ringHulls", fn := fun _ => fun
  | [d1, d2, d3, d4, d5] => { results := [.lit (.bool true)], args := [d1, d2, d3, d4, d5] }
  | _ => none }
def ringHullsRow : OpenClaim := { program := "ythmekkhpddehjaagreat", sum := "91459b733e351963c807127e98e8fc0cb7499cf9162885d3189c6a509f873de9", func := "wardmote/wardmotelaw14.RingHulls", spec := "ringHulls", inPlace := ["math/bits.Sub64", "math/bits.Add64"], unfollowed := true, recurses := true, plainKeys := false, apart := false }
def RingHullsSaid : Prop := ringHullsRow.holds Tryz.pinned (OpenSpec.ofChange ringHullsSpec)

/-- ITS FALSE NEIGHBOUR: 'it returns false'. Refute it at one input. -/
def ringHullsWrong : ChangeSpec := { name := "ringHulls", fn := fun _ => fun
  | [d1, d2, d3, d4, d5] => { results := [.lit (.bool false)], args := [d1, d2, d3, d4, d5] }
  | _ => none }
def RingHullsWrongFalsely : Prop := ringHullsRow.holds Tryz.pinned (OpenSpec.ofChange ringHullsWrong)

/-- 'wardmotelaw14.RingPick': WHATEVER THE INPUT: true; the input reads as it did. -/
def ringPickSpec : ChangeSpec := { name := "ringPick", fn := fun _ => fun
  | [d] => { results := [.lit (.bool true)], args := [d] }
  | _ => none }
def ringPickRow : OpenClaim := { program := "ythmekkhpddehjaagreat", sum := "91459b733e351963c807127e98e8fc0cb7499cf9162885d3189c6a509f873de9", func := "wardmote/wardmotelaw14.RingPick", spec := "ringPick", inPlace := ["math/bits.Sub64", "math/bits.Add64"], unfollowed := true, recurses := true, plainKeys := false, apart := false }
def RingPickSaid : Prop := ringPickRow.holds Tryz.pinned (OpenSpec.ofChange ringPickSpec)

/-- ITS FALSE NEIGHBOUR: 'it returns false'. Refute it at one input. -/
def ringPickWrong : ChangeSpec := { name := "ringPick", fn := fun _ => fun
  | [d] => { results := [.lit (.bool false)], args := [d] }
  | _ => none }
def RingPickWrongFalsely : Prop := ringPickRow.holds Tryz.pinned (OpenSpec.ofChange ringPickWrong)

/-- 'wardmotelaw14.RingHolds': WHATEVER THE INPUT: true; the input reads as it did. -/
def ringHoldsSpec : ChangeSpec := { name := "ringHolds", fn := fun _ => fun
  | [d1, d2] => { results := [.lit (.bool true)], args := [d1, d2] }
  | _ => none }
def ringHoldsRow : OpenClaim := { program := "ythmekkhpddehjaagreat", sum := "91459b733e351963c807127e98e8fc0cb7499cf9162885d3189c6a509f873de9", func := "wardmote/wardmotelaw14.RingHolds", spec := "ringHolds", inPlace := ["math/bits.Sub64", "math/bits.Add64"], unfollowed := true, recurses := true, plainKeys := false, apart := false }
def RingHoldsSaid : Prop := ringHoldsRow.holds Tryz.pinned (OpenSpec.ofChange ringHoldsSpec)

/-- ITS FALSE NEIGHBOUR: 'it returns false'. Refute it at one input. -/
def ringHoldsWrong : ChangeSpec := { name := "ringHolds", fn := fun _ => fun
  | [d1, d2] => { results := [.lit (.bool false)], args := [d1, d2] }
  | _ => none }
def RingHoldsWrongFalsely : Prop := ringHoldsRow.holds Tryz.pinned (OpenSpec.ofChange ringHoldsWrong)

/-- 'wardmotelaw14.RingMeetsAlike': WHATEVER THE INPUT: true; the input reads as it did. -/
def ringMeetsAlikeSpec : ChangeSpec := { name := "ringMeetsAlike", fn := fun _ => fun
  | [d] => { results := [.lit (.bool true)], args := [d] }
  | _ => none }
def ringMeetsAlikeRow : OpenClaim := { program := "ythmekkhpddehjaagreat", sum := "91459b733e351963c807127e98e8fc0cb7499cf9162885d3189c6a509f873de9", func := "wardmote/wardmotelaw14.RingMeetsAlike", spec := "ringMeetsAlike", inPlace := ["math/bits.Sub64", "math/bits.Add64"], unfollowed := true, recurses := true, plainKeys := false, apart := false }
def RingMeetsAlikeSaid : Prop := ringMeetsAlikeRow.holds Tryz.pinned (OpenSpec.ofChange ringMeetsAlikeSpec)

/-- ITS FALSE NEIGHBOUR: 'it returns false'. Refute it at one input. -/
def ringMeetsAlikeWrong : ChangeSpec := { name := "ringMeetsAlike", fn := fun _ => fun
  | [d] => { results := [.lit (.bool false)], args := [d] }
  | _ => none }
def RingMeetsAlikeWrongFalsely : Prop := ringMeetsAlikeRow.holds Tryz.pinned (OpenSpec.ofChange ringMeetsAlikeWrong)

/-- 'wardmotelaw14.RingKnown': WHATEVER THE INPUT: true; the input reads as it did. -/
def ringKnownSpec : ChangeSpec := { name := "ringKnown", fn := fun _ => fun
  | [] => { results := [.lit (.bool true)], args := [] }
  | _ => none }
def ringKnownRow : OpenClaim := { program := "ythmekkhpddehjaagreat", sum := "91459b733e351963c807127e98e8fc0cb7499cf9162885d3189c6a509f873de9", func := "wardmote/wardmotelaw14.RingKnown", spec := "ringKnown", inPlace := ["math/bits.Sub64", "math/bits.Add64"], unfollowed := true, recurses := true, plainKeys := false, apart := false }
def RingKnownSaid : Prop := ringKnownRow.holds Tryz.pinned (OpenSpec.ofChange ringKnownSpec)

/-- ITS FALSE NEIGHBOUR: 'it returns false'. Refute it at one input. -/
def ringKnownWrong : ChangeSpec := { name := "ringKnown", fn := fun _ => fun
  | [] => { results := [.lit (.bool false)], args := [] }
  | _ => none }
def RingKnownWrongFalsely : Prop := ringKnownRow.holds Tryz.pinned (OpenSpec.ofChange ringKnownWrong)

/-- 'wardmotelaw14.RingMeasures': WHATEVER THE INPUT: true; the input reads as it did. -/
def ringMeasuresSpec : ChangeSpec := { name := "ringMeasures", fn := fun _ => fun
  | [d1, d2, d3, d4, d5] => { results := [.lit (.bool true)], args := [d1, d2, d3, d4, d5] }
  | _ => none }
def ringMeasuresRow : OpenClaim := { program := "ythmekkhpddehjaagreat", sum := "91459b733e351963c807127e98e8fc0cb7499cf9162885d3189c6a509f873de9", func := "wardmote/wardmotelaw14.RingMeasures", spec := "ringMeasures", inPlace := ["math/bits.Sub64", "math/bits.Add64"], unfollowed := true, recurses := true, plainKeys := false, apart := false }
def RingMeasuresSaid : Prop := ringMeasuresRow.holds Tryz.pinned (OpenSpec.ofChange ringMeasuresSpec)

/-- ITS FALSE NEIGHBOUR: 'it returns false'. Refute it at one input. -/
def ringMeasuresWrong : ChangeSpec := { name := "ringMeasures", fn := fun _ => fun
  | [d1, d2, d3, d4, d5] => { results := [.lit (.bool false)], args := [d1, d2, d3, d4, d5] }
  | _ => none }
def RingMeasuresWrongFalsely : Prop := ringMeasuresRow.holds Tryz.pinned (OpenSpec.ofChange ringMeasuresWrong)

/-- 'wardmotelaw14.RingLengths': WHATEVER THE INPUT: true; the input reads as it did. -/
def ringLengthsSpec : ChangeSpec := { name := "ringLengths", fn := fun _ => fun
  | [d1, d2, d3] => { results := [.lit (.bool true)], args := [d1, d2, d3] }
  | _ => none }
def ringLengthsRow : OpenClaim := { program := "ythmekkhpddehjaagreat", sum := "91459b733e351963c807127e98e8fc0cb7499cf9162885d3189c6a509f873de9", func := "wardmote/wardmotelaw14.RingLengths", spec := "ringLengths", inPlace := ["math/bits.Sub64", "math/bits.Add64"], unfollowed := true, recurses := true, plainKeys := false, apart := false }
def RingLengthsSaid : Prop := ringLengthsRow.holds Tryz.pinned (OpenSpec.ofChange ringLengthsSpec)

/-- ITS FALSE NEIGHBOUR: 'it returns false'. Refute it at one input. -/
def ringLengthsWrong : ChangeSpec := { name := "ringLengths", fn := fun _ => fun
  | [d1, d2, d3] => { results := [.lit (.bool false)], args := [d1, d2, d3] }
  | _ => none }
def RingLengthsWrongFalsely : Prop := ringLengthsRow.holds Tryz.pinned (OpenSpec.ofChange ringLengthsWrong)

/-- 'wardmotelaw14.RingFlaws': WHATEVER THE INPUT: true; the input reads as it did. -/
def ringFlawsSpec : ChangeSpec := { name := "ringFlaws", fn := fun _ => fun
  | [d1, d2, d3] => { results := [.lit (.bool true)], args := [d1, d2, d3] }
  | _ => none }
def ringFlawsRow : OpenClaim := { program := "ythmekkhpddehjaagreat", sum := "91459b733e351963c807127e98e8fc0cb7499cf9162885d3189c6a509f873de9", func := "wardmote/wardmotelaw14.RingFlaws", spec := "ringFlaws", inPlace := ["math/bits.Sub64", "math/bits.Add64"], unfollowed := true, recurses := true, plainKeys := false, apart := false }
def RingFlawsSaid : Prop := ringFlawsRow.holds Tryz.pinned (OpenSpec.ofChange ringFlawsSpec)

/-- ITS FALSE NEIGHBOUR: 'it returns false'. Refute it at one input. -/
def ringFlawsWrong : ChangeSpec := { name := "ringFlaws", fn := fun _ => fun
  | [d1, d2, d3] => { results := [.lit (.bool false)], args := [d1, d2, d3] }
  | _ => none }
def RingFlawsWrongFalsely : Prop := ringFlawsRow.holds Tryz.pinned (OpenSpec.ofChange ringFlawsWrong)

/-- 'wardmotelaw14.RingMoves': WHATEVER THE INPUT: true; the input reads as it did. -/
def ringMovesSpec : ChangeSpec := { name := "ringMoves", fn := fun _ => fun
  | [d1, d2, d3] => { results := [.lit (.bool true)], args := [d1, d2, d3] }
  | _ => none }
def ringMovesRow : OpenClaim := { program := "ythmekkhpddehjaagreat", sum := "91459b733e351963c807127e98e8fc0cb7499cf9162885d3189c6a509f873de9", func := "wardmote/wardmotelaw14.RingMoves", spec := "ringMoves", inPlace := ["math/bits.Sub64", "math/bits.Add64"], unfollowed := true, recurses := true, plainKeys := false, apart := false }
def RingMovesSaid : Prop := ringMovesRow.holds Tryz.pinned (OpenSpec.ofChange ringMovesSpec)

/-- ITS FALSE NEIGHBOUR: 'it returns false'. Refute it at one input. -/
def ringMovesWrong : ChangeSpec := { name := "ringMoves", fn := fun _ => fun
  | [d1, d2, d3] => { results := [.lit (.bool false)], args := [d1, d2, d3] }
  | _ => none }
def RingMovesWrongFalsely : Prop := ringMovesRow.holds Tryz.pinned (OpenSpec.ofChange ringMovesWrong)

/- THE SECOND FORM. 'bulk': how many values and letters a reading holds, each counted each time it is reached (what is shared counts as often as it is met; a slice's spare places count too). A statement '..UptoSaid' is the law's where the arguments, and the package variables that the reading takes, are together of bulk at most 1048576: NARROWER than '..Said'. Prove '..Said' where nothing that the law and all that it calls make is longer than what came in: it says more and counts as full. Else prove '..UptoSaid'. A law counts once. -/
mutual
def uptoBulk {H : Type} : DataW H → Nat
  | .lit (.string bytes) => bytes.length + 1
  | .lit _ => 1
  | .nil => 1
  | .ptr d => uptoBulk d + 1
  | .slice elems spare => uptoBulkAll elems + uptoBulkAll spare + 1
  | .agg parts => uptoBulkAll parts + 1
  | .iface _ d => uptoBulk d + 1
  | .map entries => uptoBulkEntries entries + 1
  | .held _ => 1
def uptoBulkAll {H : Type} : List (DataW H) → Nat
  | [] => 0
  | d :: r => uptoBulk d + uptoBulkAll r
def uptoBulkEntries {H : Type} : List (Lit × DataW H) → Nat
  | [] => 0
  | x :: r => uptoBulkEntry x + uptoBulkEntries r
def uptoBulkEntry {H : Type} : Lit × DataW H → Nat
  | (.string bytes, d) => bytes.length + uptoBulk d + 1
  | (_, d) => uptoBulk d + 1
 end
def uptoSmall : (H : Type) → List (DataW H) → Bool := fun _ ds => decide (uptoBulkAll ds ≤ 1048576)
def OpenSpec.upto (s : _root_.Go.ChangeSpec) : _root_.Go.OpenSpec := { _root_.Go.OpenSpec.ofChange s with cond := some uptoSmall }

/-- 'wardmotelaw14.RingHulls', WHERE WHAT IT READS IS OF BULK AT MOST 1048576: true; the input reads as it did. -/
def ringHullsUptoRow : OpenClaim := { program := "ythmekkhpddehjaagreat", sum := "91459b733e351963c807127e98e8fc0cb7499cf9162885d3189c6a509f873de9", func := "wardmote/wardmotelaw14.RingHulls", spec := "ringHulls", inPlace := ["math/bits.Sub64", "math/bits.Add64"], unfollowed := true, recurses := true, plainKeys := false, apart := false, narrowed := true }
def RingHullsUptoSaid : Prop := ringHullsUptoRow.holds Tryz.pinned (OpenSpec.upto ringHullsSpec)

/-- 'wardmotelaw14.RingPick', WHERE WHAT IT READS IS OF BULK AT MOST 1048576: true; the input reads as it did. -/
def ringPickUptoRow : OpenClaim := { program := "ythmekkhpddehjaagreat", sum := "91459b733e351963c807127e98e8fc0cb7499cf9162885d3189c6a509f873de9", func := "wardmote/wardmotelaw14.RingPick", spec := "ringPick", inPlace := ["math/bits.Sub64", "math/bits.Add64"], unfollowed := true, recurses := true, plainKeys := false, apart := false, narrowed := true }
def RingPickUptoSaid : Prop := ringPickUptoRow.holds Tryz.pinned (OpenSpec.upto ringPickSpec)

/-- 'wardmotelaw14.RingHolds', WHERE WHAT IT READS IS OF BULK AT MOST 1048576: true; the input reads as it did. -/
def ringHoldsUptoRow : OpenClaim := { program := "ythmekkhpddehjaagreat", sum := "91459b733e351963c807127e98e8fc0cb7499cf9162885d3189c6a509f873de9", func := "wardmote/wardmotelaw14.RingHolds", spec := "ringHolds", inPlace := ["math/bits.Sub64", "math/bits.Add64"], unfollowed := true, recurses := true, plainKeys := false, apart := false, narrowed := true }
def RingHoldsUptoSaid : Prop := ringHoldsUptoRow.holds Tryz.pinned (OpenSpec.upto ringHoldsSpec)

/-- 'wardmotelaw14.RingMeetsAlike', WHERE WHAT IT READS IS OF BULK AT MOST 1048576: true; the input reads as it did. -/
def ringMeetsAlikeUptoRow : OpenClaim := { program := "ythmekkhpddehjaagreat", sum := "91459b733e351963c807127e98e8fc0cb7499cf9162885d3189c6a509f873de9", func := "wardmote/wardmotelaw14.RingMeetsAlike", spec := "ringMeetsAlike", inPlace := ["math/bits.Sub64", "math/bits.Add64"], unfollowed := true, recurses := true, plainKeys := false, apart := false, narrowed := true }
def RingMeetsAlikeUptoSaid : Prop := ringMeetsAlikeUptoRow.holds Tryz.pinned (OpenSpec.upto ringMeetsAlikeSpec)

/-- 'wardmotelaw14.RingKnown', WHERE WHAT IT READS IS OF BULK AT MOST 1048576: true; the input reads as it did. -/
def ringKnownUptoRow : OpenClaim := { program := "ythmekkhpddehjaagreat", sum := "91459b733e351963c807127e98e8fc0cb7499cf9162885d3189c6a509f873de9", func := "wardmote/wardmotelaw14.RingKnown", spec := "ringKnown", inPlace := ["math/bits.Sub64", "math/bits.Add64"], unfollowed := true, recurses := true, plainKeys := false, apart := false, narrowed := true }
def RingKnownUptoSaid : Prop := ringKnownUptoRow.holds Tryz.pinned (OpenSpec.upto ringKnownSpec)

/-- 'wardmotelaw14.RingMeasures', WHERE WHAT IT READS IS OF BULK AT MOST 1048576: true; the input reads as it did. -/
def ringMeasuresUptoRow : OpenClaim := { program := "ythmekkhpddehjaagreat", sum := "91459b733e351963c807127e98e8fc0cb7499cf9162885d3189c6a509f873de9", func := "wardmote/wardmotelaw14.RingMeasures", spec := "ringMeasures", inPlace := ["math/bits.Sub64", "math/bits.Add64"], unfollowed := true, recurses := true, plainKeys := false, apart := false, narrowed := true }
def RingMeasuresUptoSaid : Prop := ringMeasuresUptoRow.holds Tryz.pinned (OpenSpec.upto ringMeasuresSpec)

/-- 'wardmotelaw14.RingLengths', WHERE WHAT IT READS IS OF BULK AT MOST 1048576: true; the input reads as it did. -/
def ringLengthsUptoRow : OpenClaim := { program := "ythmekkhpddehjaagreat", sum := "91459b733e351963c807127e98e8fc0cb7499cf9162885d3189c6a509f873de9", func := "wardmote/wardmotelaw14.RingLengths", spec := "ringLengths", inPlace := ["math/bits.Sub64", "math/bits.Add64"], unfollowed := true, recurses := true, plainKeys := false, apart := false, narrowed := true }
def RingLengthsUptoSaid : Prop := ringLengthsUptoRow.holds Tryz.pinned (OpenSpec.upto ringLengthsSpec)

/-- 'wardmotelaw14.RingFlaws', WHERE WHAT IT READS IS OF BULK AT MOST 1048576: true; the input reads as it did. -/
def ringFlawsUptoRow : OpenClaim := { program := "ythmekkhpddehjaagreat", sum := "91459b733e351963c807127e98e8fc0cb7499cf9162885d3189c6a509f873de9", func := "wardmote/wardmotelaw14.RingFlaws", spec := "ringFlaws", inPlace := ["math/bits.Sub64", "math/bits.Add64"], unfollowed := true, recurses := true, plainKeys := false, apart := false, narrowed := true }
def RingFlawsUptoSaid : Prop := ringFlawsUptoRow.holds Tryz.pinned (OpenSpec.upto ringFlawsSpec)

/-- 'wardmotelaw14.RingMoves', WHERE WHAT IT READS IS OF BULK AT MOST 1048576: true; the input reads as it did. -/
def ringMovesUptoRow : OpenClaim := { program := "ythmekkhpddehjaagreat", sum := "91459b733e351963c807127e98e8fc0cb7499cf9162885d3189c6a509f873de9", func := "wardmote/wardmotelaw14.RingMoves", spec := "ringMoves", inPlace := ["math/bits.Sub64", "math/bits.Add64"], unfollowed := true, recurses := true, plainKeys := false, apart := false, narrowed := true }
def RingMovesUptoSaid : Prop := ringMovesUptoRow.holds Tryz.pinned (OpenSpec.upto ringMovesSpec)

end Rows
end Go.Proofs.YthmekkhpddehjaaGreat
