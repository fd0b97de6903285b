/-
  No cell of these rows narrows 'for every input' (looked for: loops, veiled, ifaces, maps, wideKeys, modest, calm, conditions, laid).
  DERIVED. THE GIVEN ROWS OF THIS SEAT. 4 by the template 'for every input the law returns true; each argument reads behind the call as it read before'; 0 by the template 'total and deterministic' (their statements: YtmndpgfbkicndaaGreatTotals.lean).
  GIVEN WITH THE SEED: the statements are not yours to turn. If you find one false, say at which input.
  Laid BY PROGRAM, IN A SANDBOX (cutbox-rows.mjs): the forced cells as the released guide's own fill.sh prints them over the translation 7ca20ed88887845d… (all of the seat's roots in one cut). By AI agents, Wed Nov 11 2026. No macro, syntax, notation, axiom, sorry.
-/
import Derived.Test.YtmndpgfbkicndaaGreatChecked
import GoSem.Claim
import GoSem.ClaimJoined
import GoSem.ClaimMapViews
import Derived.JoinedTies
import Derived.KernelRfl
namespace Go.Proofs.YtmndpgfbkicndaaGreat
/- THE CELL 'sum', in the pinned program and in every row, IS THE sha256 OF THE DUMP (.gsa) THAT YtmndpgfbkicndaaGreatProg.lean LOADS. Nothing in Lean hashes anything: it is a label: what it is worth is what the hold of that sum in a sandbox is worth. -/
noncomputable def Tryz.pinned : Pinned := { name := "ytmndpgfbkicndaagreat", sum := "7ca20ed88887845d54a49e9b0594506615a172da305ae217564091e82d783e66", checked := Tryz.checked }
namespace Rows
def none {H : Type} : Left H := { results := [], args := [] }

/-- 'wardmotelaw15.ComplexKnown': WHATEVER THE INPUT: true; the input reads as it did. -/
def complexKnownSpec : ChangeSpec := { name := "complexKnown", fn := fun _ => fun
  | [] => { results := [.lit (.bool true)], args := [] }
  | _ => none }
def complexKnownRow : OpenClaim := { program := "ytmndpgfbkicndaagreat", sum := "7ca20ed88887845d54a49e9b0594506615a172da305ae217564091e82d783e66", func := "wardmote/wardmotelaw15.ComplexKnown", spec := "complexKnown", unfollowed := true, recurses := true, plainKeys := false, apart := false }
def ComplexKnownSaid : Prop := complexKnownRow.holds Tryz.pinned (OpenSpec.ofChange complexKnownSpec)

/-- ITS FALSE NEIGHBOUR: 'it returns false'. Refute it at one input. -/
def complexKnownWrong : ChangeSpec := { name := "complexKnown", fn := fun _ => fun
  | [] => { results := [.lit (.bool false)], args := [] }
  | _ => none }
def ComplexKnownWrongFalsely : Prop := complexKnownRow.holds Tryz.pinned (OpenSpec.ofChange complexKnownWrong)

/-- 'wardmotelaw15.ComplexEdges': WHATEVER THE INPUT: true; the input reads as it did. -/
def complexEdgesSpec : ChangeSpec := { name := "complexEdges", fn := fun _ => fun
  | [d1, d2] => { results := [.lit (.bool true)], args := [d1, d2] }
  | _ => none }
def complexEdgesRow : OpenClaim := { program := "ytmndpgfbkicndaagreat", sum := "7ca20ed88887845d54a49e9b0594506615a172da305ae217564091e82d783e66", func := "wardmote/wardmotelaw15.ComplexEdges", spec := "complexEdges", inPlace := ["slices.overlaps[int]"], unfollowed := true, recurses := true, plainKeys := false, apart := false }
def ComplexEdgesSaid : Prop := complexEdgesRow.holds Tryz.pinned (OpenSpec.ofChange complexEdgesSpec)

/-- ITS FALSE NEIGHBOUR: 'it returns false'. Refute it at one input. -/
def complexEdgesWrong : ChangeSpec := { name := "complexEdges", fn := fun _ => fun
  | [d1, d2] => { results := [.lit (.bool false)], args := [d1, d2] }
  | _ => none }
def ComplexEdgesWrongFalsely : Prop := complexEdgesRow.holds Tryz.pinned (OpenSpec.ofChange complexEdgesWrong)

/-- 'wardmotelaw15.ComplexFinds': WHATEVER THE INPUT: true; the input reads as it did. -/
def complexFindsSpec : ChangeSpec := { name := "complexFinds", fn := fun _ => fun
  | [d1, d2, d3, d4, d5, d6] => { results := [.lit (.bool true)], args := [d1, d2, d3, d4, d5, d6] }
  | _ => none }
def complexFindsRow : OpenClaim := { program := "ytmndpgfbkicndaagreat", sum := "7ca20ed88887845d54a49e9b0594506615a172da305ae217564091e82d783e66", func := "wardmote/wardmotelaw15.ComplexFinds", spec := "complexFinds", inPlace := ["slices.overlaps[int]"], unfollowed := true, recurses := true, plainKeys := false, apart := false }
def ComplexFindsSaid : Prop := complexFindsRow.holds Tryz.pinned (OpenSpec.ofChange complexFindsSpec)

/-- ITS FALSE NEIGHBOUR: 'it returns false'. Refute it at one input. -/
def complexFindsWrong : ChangeSpec := { name := "complexFinds", fn := fun _ => fun
  | [d1, d2, d3, d4, d5, d6] => { results := [.lit (.bool false)], args := [d1, d2, d3, d4, d5, d6] }
  | _ => none }
def ComplexFindsWrongFalsely : Prop := complexFindsRow.holds Tryz.pinned (OpenSpec.ofChange complexFindsWrong)

/-- 'wardmotelaw15.ComplexFlaws': WHATEVER THE INPUT: true; the input reads as it did. -/
def complexFlawsSpec : ChangeSpec := { name := "complexFlaws", fn := fun _ => fun
  | [d1, d2, d3, d4] => { results := [.lit (.bool true)], args := [d1, d2, d3, d4] }
  | _ => none }
def complexFlawsRow : OpenClaim := { program := "ytmndpgfbkicndaagreat", sum := "7ca20ed88887845d54a49e9b0594506615a172da305ae217564091e82d783e66", func := "wardmote/wardmotelaw15.ComplexFlaws", spec := "complexFlaws", inPlace := ["slices.overlaps[int]"], unfollowed := true, recurses := true, plainKeys := false, apart := false }
def ComplexFlawsSaid : Prop := complexFlawsRow.holds Tryz.pinned (OpenSpec.ofChange complexFlawsSpec)

/-- ITS FALSE NEIGHBOUR: 'it returns false'. Refute it at one input. -/
def complexFlawsWrong : ChangeSpec := { name := "complexFlaws", fn := fun _ => fun
  | [d1, d2, d3, d4] => { results := [.lit (.bool false)], args := [d1, d2, d3, d4] }
  | _ => none }
def ComplexFlawsWrongFalsely : Prop := complexFlawsRow.holds Tryz.pinned (OpenSpec.ofChange complexFlawsWrong)

/- THE SECOND FORM. 'bulk': how many values and letters a reading holds, each counted each time it is reached (what is shared counts as often as it is met; a slice's spare places count too). A statement '..UptoSaid' is the law's where the arguments, and the package variables that the reading takes, are together of bulk at most 1048576: NARROWER than '..Said'. Prove '..Said' where nothing that the law and all that it calls make is longer than what came in: it says more and counts as full. Else prove '..UptoSaid'. A law counts once. -/
mutual
def uptoBulk {H : Type} : DataW H → Nat
  | .lit (.string bytes) => bytes.length + 1
  | .lit _ => 1
  | .nil => 1
  | .ptr d => uptoBulk d + 1
  | .slice elems spare => uptoBulkAll elems + uptoBulkAll spare + 1
  | .agg parts => uptoBulkAll parts + 1
  | .iface _ d => uptoBulk d + 1
  | .map entries => uptoBulkEntries entries + 1
  | .held _ => 1
def uptoBulkAll {H : Type} : List (DataW H) → Nat
  | [] => 0
  | d :: r => uptoBulk d + uptoBulkAll r
def uptoBulkEntries {H : Type} : List (Lit × DataW H) → Nat
  | [] => 0
  | x :: r => uptoBulkEntry x + uptoBulkEntries r
def uptoBulkEntry {H : Type} : Lit × DataW H → Nat
  | (.string bytes, d) => bytes.length + uptoBulk d + 1
  | (_, d) => uptoBulk d + 1
 end
def uptoSmall : (H : Type) → List (DataW H) → Bool := fun _ ds => decide (uptoBulkAll ds ≤ 1048576)
def OpenSpec.upto (s : _root_.Go.ChangeSpec) : _root_.Go.OpenSpec := { _root_.Go.OpenSpec.ofChange s with cond := some uptoSmall }

/-- 'wardmotelaw15.ComplexKnown', WHERE WHAT IT READS IS OF BULK AT MOST 1048576: true; the input reads as it did. -/
def complexKnownUptoRow : OpenClaim := { program := "ytmndpgfbkicndaagreat", sum := "7ca20ed88887845d54a49e9b0594506615a172da305ae217564091e82d783e66", func := "wardmote/wardmotelaw15.ComplexKnown", spec := "complexKnown", unfollowed := true, recurses := true, plainKeys := false, apart := false, narrowed := true }
def ComplexKnownUptoSaid : Prop := complexKnownUptoRow.holds Tryz.pinned (OpenSpec.upto complexKnownSpec)

/-- 'wardmotelaw15.ComplexEdges', WHERE WHAT IT READS IS OF BULK AT MOST 1048576: true; the input reads as it did. -/
def complexEdgesUptoRow : OpenClaim := { program := "ytmndpgfbkicndaagreat", sum := "7ca20ed88887845d54a49e9b0594506615a172da305ae217564091e82d783e66", func := "wardmote/wardmotelaw15.ComplexEdges", spec := "complexEdges", inPlace := ["slices.overlaps[int]"], unfollowed := true, recurses := true, plainKeys := false, apart := false, narrowed := true }
def ComplexEdgesUptoSaid : Prop := complexEdgesUptoRow.holds Tryz.pinned (OpenSpec.upto complexEdgesSpec)

/-- 'wardmotelaw15.ComplexFinds', WHERE WHAT IT READS IS OF BULK AT MOST 1048576: true; the input reads as it did. -/
def complexFindsUptoRow : OpenClaim := { program := "ytmndpgfbkicndaagreat", sum := "7ca20ed88887845d54a49e9b0594506615a172da305ae217564091e82d783e66", func := "wardmote/wardmotelaw15.ComplexFinds", spec := "complexFinds", inPlace := ["slices.overlaps[int]"], unfollowed := true, recurses := true, plainKeys := false, apart := false, narrowed := true }
def ComplexFindsUptoSaid : Prop := complexFindsUptoRow.holds Tryz.pinned (OpenSpec.upto complexFindsSpec)

/-- 'wardmotelaw15.ComplexFlaws', WHERE WHAT IT READS IS OF BULK AT MOST 1048576: true; the input reads as it did. -/
def complexFlawsUptoRow : OpenClaim := { program := "ytmndpgfbkicndaagreat", sum := "7ca20ed88887845d54a49e9b0594506615a172da305ae217564091e82d783e66", func := "wardmote/wardmotelaw15.ComplexFlaws", spec := "complexFlaws", inPlace := ["slices.overlaps[int]"], unfollowed := true, recurses := true, plainKeys := false, apart := false, narrowed := true }
def ComplexFlawsUptoSaid : Prop := complexFlawsUptoRow.holds Tryz.pinned (OpenSpec.upto complexFlawsSpec)

end Rows
end Go.Proofs.YtmndpgfbkicndaaGreat
