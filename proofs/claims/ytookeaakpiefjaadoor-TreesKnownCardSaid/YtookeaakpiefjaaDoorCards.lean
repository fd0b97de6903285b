/-
  DERIVED. GIVEN WITH THE SEED: THE CARDS: each row of YtookeaakpiefjaaDoorRows.lean that lists a variable, with what it lists TIED to the program's text (the seventh form; the later family's looks); each row that meets fmt, with fmt's text TOLD by the authors' own Lean function (tested against real Go, not proved from fmt's source: count such statements apart). THE CARD IS WHAT COUNTS. Prove the row's statement (the work); the ties are given (YtookeaakpiefjaaDoorTie.lean); close each card by the builder's one call (the guide's Derived/Test/ToyasCard.lean, 'card_holds'). Laid BY PROGRAM, IN A SANDBOX (cutbox-door.mjs). By AI agents, Wed Nov 11 2026. No macro, syntax, notation, axiom, sorry.
-/
import Derived.Test.YtookeaakpiefjaaDoorRows
import GoSem.ClaimSeven
namespace Go.Proofs.YtookeaakpiefjaaDoor
namespace Rows

/-- THE TIED CARD OF 'wardmotelaw30.TreesNumbers'. -/
def treesNumbersCard : Claim7 := { stood := { row := treesNumbersRow, standIns := [], harness := (true, "fe0425c8b9ab35d353fcad2463514087474ca18f9c5000a39413c419cfe71391"), looks := false }, kinds := [], alts := [], laidByText := true, laidKinds := [.data], laidTests := true, laidLooks := .later }
def TreesNumbersCardSaid : Prop := Claim7.holds Tryd.pinned (.plain (OpenSpec.ofChange treesNumbersSpec)) treesNumbersCard

/-- THE TIED CARD OF 'wardmotelaw30.TreesWays'. -/
def treesWaysCard : Claim7 := { stood := { row := treesWaysRow, standIns := [], harness := (true, "fe0425c8b9ab35d353fcad2463514087474ca18f9c5000a39413c419cfe71391"), looks := false }, kinds := [], alts := [], laidByText := true, laidKinds := [.data], laidTests := true, laidLooks := .later }
def TreesWaysCardSaid : Prop := Claim7.holds Tryd.pinned (.plain (OpenSpec.ofChange treesWaysSpec)) treesWaysCard

/-- THE TIED CARD OF 'wardmotelaw30.TreesKnown'. -/
def treesKnownCard : Claim7 := { stood := { row := treesKnownRow, standIns := [], harness := (true, "fe0425c8b9ab35d353fcad2463514087474ca18f9c5000a39413c419cfe71391"), looks := false }, kinds := [], alts := [], laidByText := true, laidKinds := [.data], laidTests := true, laidLooks := .later }
def TreesKnownCardSaid : Prop := Claim7.holds Tryd.pinned (.plain (OpenSpec.ofChange treesKnownSpec)) treesKnownCard

/-- THE SECOND FORM's CARD OF 'wardmotelaw30.TreesNumbers'. -/
def treesNumbersUptoCard : Claim7 := { stood := { row := treesNumbersUptoRow, standIns := [], harness := (true, "fe0425c8b9ab35d353fcad2463514087474ca18f9c5000a39413c419cfe71391"), looks := false }, kinds := [], alts := [], laidByText := true, laidKinds := [.data], laidTests := true, laidLooks := .later }
def TreesNumbersUptoCardSaid : Prop := Claim7.holds Tryd.pinned (.plain (OpenSpec.upto treesNumbersSpec)) treesNumbersUptoCard

/-- THE SECOND FORM's CARD OF 'wardmotelaw30.TreesWays'. -/
def treesWaysUptoCard : Claim7 := { stood := { row := treesWaysUptoRow, standIns := [], harness := (true, "fe0425c8b9ab35d353fcad2463514087474ca18f9c5000a39413c419cfe71391"), looks := false }, kinds := [], alts := [], laidByText := true, laidKinds := [.data], laidTests := true, laidLooks := .later }
def TreesWaysUptoCardSaid : Prop := Claim7.holds Tryd.pinned (.plain (OpenSpec.upto treesWaysSpec)) treesWaysUptoCard

/-- THE SECOND FORM's CARD OF 'wardmotelaw30.TreesKnown'. -/
def treesKnownUptoCard : Claim7 := { stood := { row := treesKnownUptoRow, standIns := [], harness := (true, "fe0425c8b9ab35d353fcad2463514087474ca18f9c5000a39413c419cfe71391"), looks := false }, kinds := [], alts := [], laidByText := true, laidKinds := [.data], laidTests := true, laidLooks := .later }
def TreesKnownUptoCardSaid : Prop := Claim7.holds Tryd.pinned (.plain (OpenSpec.upto treesKnownSpec)) treesKnownUptoCard
end Rows
end Go.Proofs.YtookeaakpiefjaaDoor
