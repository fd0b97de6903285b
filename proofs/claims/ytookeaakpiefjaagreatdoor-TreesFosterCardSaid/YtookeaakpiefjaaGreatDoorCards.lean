/-
  DERIVED. GIVEN WITH THE SEED: THE CARDS: each row of YtookeaakpiefjaaGreatDoorRows.lean that lists a variable, with what it lists TIED to the program's text (the seventh form; the later family's looks); each row that meets fmt, with fmt's text TOLD by the authors' own Lean function (tested against real Go, not proved from fmt's source: count such statements apart). THE CARD IS WHAT COUNTS. Prove the row's statement (the work); the ties are given (YtookeaakpiefjaaGreatDoorTie.lean); close each card by the builder's one call (the guide's Derived/Test/ToyasCard.lean, 'card_holds'). Laid BY PROGRAM, IN A SANDBOX (cutbox-door.mjs). By AI agents, Wed Nov 11 2026. No macro, syntax, notation, axiom, sorry.
-/
import Derived.Test.YtookeaakpiefjaaGreatDoorRows
import GoSem.ClaimSeven
namespace Go.Proofs.YtookeaakpiefjaaGreatDoor
namespace Rows

/-- THE TIED CARD OF 'wardmotelaw30.TreesCounts'. -/
def treesCountsCard : Claim7 := { stood := { row := treesCountsRow, standIns := [], harness := (true, "da391aed69708a87184de248f62d22afaad89e8d8ec5aee204e6099af0b59a27"), looks := false }, kinds := [], alts := [], laidByText := true, laidKinds := [.data], laidTests := true, laidLooks := .later }
def TreesCountsCardSaid : Prop := Claim7.holds Tryz.pinned (.plain (OpenSpec.ofChange treesCountsSpec)) treesCountsCard

/-- THE TIED CARD OF 'wardmotelaw30.TreesRanks'. -/
def treesRanksCard : Claim7 := { stood := { row := treesRanksRow, standIns := [], harness := (true, "da391aed69708a87184de248f62d22afaad89e8d8ec5aee204e6099af0b59a27"), looks := false }, kinds := [], alts := [], laidByText := true, laidKinds := [.data], laidTests := true, laidLooks := .later }
def TreesRanksCardSaid : Prop := Claim7.holds Tryz.pinned (.plain (OpenSpec.ofChange treesRanksSpec)) treesRanksCard

/-- THE TIED CARD OF 'wardmotelaw30.TreesParts'. -/
def treesPartsCard : Claim7 := { stood := { row := treesPartsRow, standIns := [], harness := (true, "da391aed69708a87184de248f62d22afaad89e8d8ec5aee204e6099af0b59a27"), looks := false }, kinds := [], alts := [], laidByText := true, laidKinds := [.data], laidTests := true, laidLooks := .later }
def TreesPartsCardSaid : Prop := Claim7.holds Tryz.pinned (.plain (OpenSpec.ofChange treesPartsSpec)) treesPartsCard

/-- THE TIED CARD OF 'wardmotelaw30.TreesDeletes'. -/
def treesDeletesCard : Claim7 := { stood := { row := treesDeletesRow, standIns := [], harness := (true, "da391aed69708a87184de248f62d22afaad89e8d8ec5aee204e6099af0b59a27"), looks := false }, kinds := [], alts := [], laidByText := true, laidKinds := [.data], laidTests := true, laidLooks := .later }
def TreesDeletesCardSaid : Prop := Claim7.holds Tryz.pinned (.plain (OpenSpec.ofChange treesDeletesSpec)) treesDeletesCard

/-- THE TIED CARD OF 'wardmotelaw30.TreesFoster'. -/
def treesFosterCard : Claim7 := { stood := { row := treesFosterRow, standIns := [], harness := (true, "da391aed69708a87184de248f62d22afaad89e8d8ec5aee204e6099af0b59a27"), looks := false }, kinds := [], alts := [], laidByText := true, laidKinds := [.data], laidTests := true, laidLooks := .later }
def TreesFosterCardSaid : Prop := Claim7.holds Tryz.pinned (.plain (OpenSpec.ofChange treesFosterSpec)) treesFosterCard

/-- THE SECOND FORM's CARD OF 'wardmotelaw30.TreesCounts'. -/
def treesCountsUptoCard : Claim7 := { stood := { row := treesCountsUptoRow, standIns := [], harness := (true, "da391aed69708a87184de248f62d22afaad89e8d8ec5aee204e6099af0b59a27"), looks := false }, kinds := [], alts := [], laidByText := true, laidKinds := [.data], laidTests := true, laidLooks := .later }
def TreesCountsUptoCardSaid : Prop := Claim7.holds Tryz.pinned (.plain (OpenSpec.upto treesCountsSpec)) treesCountsUptoCard

/-- THE SECOND FORM's CARD OF 'wardmotelaw30.TreesRanks'. -/
def treesRanksUptoCard : Claim7 := { stood := { row := treesRanksUptoRow, standIns := [], harness := (true, "da391aed69708a87184de248f62d22afaad89e8d8ec5aee204e6099af0b59a27"), looks := false }, kinds := [], alts := [], laidByText := true, laidKinds := [.data], laidTests := true, laidLooks := .later }
def TreesRanksUptoCardSaid : Prop := Claim7.holds Tryz.pinned (.plain (OpenSpec.upto treesRanksSpec)) treesRanksUptoCard

/-- THE SECOND FORM's CARD OF 'wardmotelaw30.TreesParts'. -/
def treesPartsUptoCard : Claim7 := { stood := { row := treesPartsUptoRow, standIns := [], harness := (true, "da391aed69708a87184de248f62d22afaad89e8d8ec5aee204e6099af0b59a27"), looks := false }, kinds := [], alts := [], laidByText := true, laidKinds := [.data], laidTests := true, laidLooks := .later }
def TreesPartsUptoCardSaid : Prop := Claim7.holds Tryz.pinned (.plain (OpenSpec.upto treesPartsSpec)) treesPartsUptoCard

/-- THE SECOND FORM's CARD OF 'wardmotelaw30.TreesDeletes'. -/
def treesDeletesUptoCard : Claim7 := { stood := { row := treesDeletesUptoRow, standIns := [], harness := (true, "da391aed69708a87184de248f62d22afaad89e8d8ec5aee204e6099af0b59a27"), looks := false }, kinds := [], alts := [], laidByText := true, laidKinds := [.data], laidTests := true, laidLooks := .later }
def TreesDeletesUptoCardSaid : Prop := Claim7.holds Tryz.pinned (.plain (OpenSpec.upto treesDeletesSpec)) treesDeletesUptoCard

/-- THE SECOND FORM's CARD OF 'wardmotelaw30.TreesFoster'. -/
def treesFosterUptoCard : Claim7 := { stood := { row := treesFosterUptoRow, standIns := [], harness := (true, "da391aed69708a87184de248f62d22afaad89e8d8ec5aee204e6099af0b59a27"), looks := false }, kinds := [], alts := [], laidByText := true, laidKinds := [.data], laidTests := true, laidLooks := .later }
def TreesFosterUptoCardSaid : Prop := Claim7.holds Tryz.pinned (.plain (OpenSpec.upto treesFosterSpec)) treesFosterUptoCard
end Rows
end Go.Proofs.YtookeaakpiefjaaGreatDoor
