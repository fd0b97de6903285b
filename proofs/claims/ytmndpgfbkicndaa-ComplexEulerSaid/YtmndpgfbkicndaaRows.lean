/-
  No cell of these rows narrows 'for every input' (looked for: loops, veiled, ifaces, maps, wideKeys, modest, calm, conditions, laid).
  DERIVED. THE GIVEN ROWS OF THIS SEAT. 3 by the template 'for every input the law returns true; each argument reads behind the call as it read before'; 0 by the template 'total and deterministic' (their statements: YtmndpgfbkicndaaTotals.lean).
  GIVEN WITH THE SEED: the statements are not yours to turn. If you find one false, say at which input.
  Laid BY PROGRAM, IN A SANDBOX (cutbox-rows.mjs): the forced cells as the released guide's own fill.sh prints them over the translation 6891d5efdc6b8b36… (all of the seat's roots in one cut). By AI agents, Wed Nov 11 2026. No macro, syntax, notation, axiom, sorry.
-/
import Derived.Test.YtmndpgfbkicndaaChecked
import GoSem.Claim
import GoSem.ClaimJoined
import GoSem.ClaimMapViews
import Derived.JoinedTies
import Derived.KernelRfl
namespace Go.Proofs.Ytmndpgfbkicndaa
/- THE CELL 'sum', in the pinned program and in every row, IS THE sha256 OF THE DUMP (.gsa) THAT YtmndpgfbkicndaaProg.lean LOADS. Nothing in Lean hashes anything: it is a label: what it is worth is what the hold of that sum in a sandbox is worth. -/
noncomputable def Try.pinned : Pinned := { name := "ytmndpgfbkicndaa", sum := "6891d5efdc6b8b36f7a910c5c83fd80b536d0f26acf9d10c67cd6ffc5b94d776", checked := Try.checked }
namespace Rows
def none {H : Type} : Left H := { results := [], args := [] }

/-- 'wardmotelaw15.ComplexAreas': WHATEVER THE INPUT: true; the input reads as it did. -/
def complexAreasSpec : ChangeSpec := { name := "complexAreas", fn := fun _ => fun
  | [d1, d2] => { results := [.lit (.bool true)], args := [d1, d2] }
  | _ => none }
def complexAreasRow : OpenClaim := { program := "ytmndpgfbkicndaa", sum := "6891d5efdc6b8b36f7a910c5c83fd80b536d0f26acf9d10c67cd6ffc5b94d776", func := "wardmote/wardmotelaw15.ComplexAreas", spec := "complexAreas", inPlace := ["slices.overlaps[int]"], unfollowed := true, recurses := true, plainKeys := false, apart := false }
def ComplexAreasSaid : Prop := complexAreasRow.holds Try.pinned (OpenSpec.ofChange complexAreasSpec)

/-- ITS FALSE NEIGHBOUR: 'it returns false'. Refute it at one input. -/
def complexAreasWrong : ChangeSpec := { name := "complexAreas", fn := fun _ => fun
  | [d1, d2] => { results := [.lit (.bool false)], args := [d1, d2] }
  | _ => none }
def ComplexAreasWrongFalsely : Prop := complexAreasRow.holds Try.pinned (OpenSpec.ofChange complexAreasWrong)

/-- 'wardmotelaw15.ComplexEuler': WHATEVER THE INPUT: true; the input reads as it did. -/
def complexEulerSpec : ChangeSpec := { name := "complexEuler", fn := fun _ => fun
  | [d1, d2] => { results := [.lit (.bool true)], args := [d1, d2] }
  | _ => none }
def complexEulerRow : OpenClaim := { program := "ytmndpgfbkicndaa", sum := "6891d5efdc6b8b36f7a910c5c83fd80b536d0f26acf9d10c67cd6ffc5b94d776", func := "wardmote/wardmotelaw15.ComplexEuler", spec := "complexEuler", inPlace := ["slices.overlaps[int]"], unfollowed := true, recurses := true, plainKeys := false, apart := false }
def ComplexEulerSaid : Prop := complexEulerRow.holds Try.pinned (OpenSpec.ofChange complexEulerSpec)

/-- ITS FALSE NEIGHBOUR: 'it returns false'. Refute it at one input. -/
def complexEulerWrong : ChangeSpec := { name := "complexEuler", fn := fun _ => fun
  | [d1, d2] => { results := [.lit (.bool false)], args := [d1, d2] }
  | _ => none }
def ComplexEulerWrongFalsely : Prop := complexEulerRow.holds Try.pinned (OpenSpec.ofChange complexEulerWrong)

/-- 'wardmotelaw15.ComplexPlaces': WHATEVER THE INPUT: true; the input reads as it did. -/
def complexPlacesSpec : ChangeSpec := { name := "complexPlaces", fn := fun _ => fun
  | [d1, d2, d3, d4] => { results := [.lit (.bool true)], args := [d1, d2, d3, d4] }
  | _ => none }
def complexPlacesRow : OpenClaim := { program := "ytmndpgfbkicndaa", sum := "6891d5efdc6b8b36f7a910c5c83fd80b536d0f26acf9d10c67cd6ffc5b94d776", func := "wardmote/wardmotelaw15.ComplexPlaces", spec := "complexPlaces", inPlace := ["slices.overlaps[int]"], unfollowed := true, recurses := true, plainKeys := false, apart := false }
def ComplexPlacesSaid : Prop := complexPlacesRow.holds Try.pinned (OpenSpec.ofChange complexPlacesSpec)

/-- ITS FALSE NEIGHBOUR: 'it returns false'. Refute it at one input. -/
def complexPlacesWrong : ChangeSpec := { name := "complexPlaces", fn := fun _ => fun
  | [d1, d2, d3, d4] => { results := [.lit (.bool false)], args := [d1, d2, d3, d4] }
  | _ => none }
def ComplexPlacesWrongFalsely : Prop := complexPlacesRow.holds Try.pinned (OpenSpec.ofChange complexPlacesWrong)

/- THE SECOND FORM. 'bulk': how many values and letters a reading holds, each counted each time it is reached (what is shared counts as often as it is met; a slice's spare places count too). A statement '..UptoSaid' is the law's where the arguments, and the package variables that the reading takes, are together of bulk at most 1048576: NARROWER than '..Said'. Prove '..Said' where nothing that the law and all that it calls make is longer than what came in: it says more and counts as full. Else prove '..UptoSaid'. A law counts once. -/
mutual
def uptoBulk {H : Type} : DataW H → Nat
  | .lit (.string bytes) => bytes.length + 1
  | .lit _ => 1
  | .nil => 1
  | .ptr d => uptoBulk d + 1
  | .slice elems spare => uptoBulkAll elems + uptoBulkAll spare + 1
  | .agg parts => uptoBulkAll parts + 1
  | .iface _ d => uptoBulk d + 1
  | .map entries => uptoBulkEntries entries + 1
  | .held _ => 1
def uptoBulkAll {H : Type} : List (DataW H) → Nat
  | [] => 0
  | d :: r => uptoBulk d + uptoBulkAll r
def uptoBulkEntries {H : Type} : List (Lit × DataW H) → Nat
  | [] => 0
  | x :: r => uptoBulkEntry x + uptoBulkEntries r
def uptoBulkEntry {H : Type} : Lit × DataW H → Nat
  | (.string bytes, d) => bytes.length + uptoBulk d + 1
  | (_, d) => uptoBulk d + 1
 end
def uptoSmall : (H : Type) → List (DataW H) → Bool := fun _ ds => decide (uptoBulkAll ds ≤ 1048576)
def OpenSpec.upto (s : _root_.Go.ChangeSpec) : _root_.Go.OpenSpec := { _root_.Go.OpenSpec.ofChange s with cond := some uptoSmall }

/-- 'wardmotelaw15.ComplexAreas', WHERE WHAT IT READS IS OF BULK AT MOST 1048576: true; the input reads as it did. -/
def complexAreasUptoRow : OpenClaim := { program := "ytmndpgfbkicndaa", sum := "6891d5efdc6b8b36f7a910c5c83fd80b536d0f26acf9d10c67cd6ffc5b94d776", func := "wardmote/wardmotelaw15.ComplexAreas", spec := "complexAreas", inPlace := ["slices.overlaps[int]"], unfollowed := true, recurses := true, plainKeys := false, apart := false, narrowed := true }
def ComplexAreasUptoSaid : Prop := complexAreasUptoRow.holds Try.pinned (OpenSpec.upto complexAreasSpec)

/-- 'wardmotelaw15.ComplexEuler', WHERE WHAT IT READS IS OF BULK AT MOST 1048576: true; the input reads as it did. -/
def complexEulerUptoRow : OpenClaim := { program := "ytmndpgfbkicndaa", sum := "6891d5efdc6b8b36f7a910c5c83fd80b536d0f26acf9d10c67cd6ffc5b94d776", func := "wardmote/wardmotelaw15.ComplexEuler", spec := "complexEuler", inPlace := ["slices.overlaps[int]"], unfollowed := true, recurses := true, plainKeys := false, apart := false, narrowed := true }
def ComplexEulerUptoSaid : Prop := complexEulerUptoRow.holds Try.pinned (OpenSpec.upto complexEulerSpec)

/-- 'wardmotelaw15.ComplexPlaces', WHERE WHAT IT READS IS OF BULK AT MOST 1048576: true; the input reads as it did. -/
def complexPlacesUptoRow : OpenClaim := { program := "ytmndpgfbkicndaa", sum := "6891d5efdc6b8b36f7a910c5c83fd80b536d0f26acf9d10c67cd6ffc5b94d776", func := "wardmote/wardmotelaw15.ComplexPlaces", spec := "complexPlaces", inPlace := ["slices.overlaps[int]"], unfollowed := true, recurses := true, plainKeys := false, apart := false, narrowed := true }
def ComplexPlacesUptoSaid : Prop := complexPlacesUptoRow.holds Try.pinned (OpenSpec.upto complexPlacesSpec)

end Rows
end Go.Proofs.Ytmndpgfbkicndaa
