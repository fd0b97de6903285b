/-
  DERIVED. GIVEN WITH THE SEED: THE CARDS: each row of YtpclggcpobakhaaDoorRows.lean that lists a variable, with what it lists TIED to the program's text (the seventh form; the later family's looks); each row that meets fmt, with fmt's text TOLD by the authors' own Lean function (tested against real Go, not proved from fmt's source: count such statements apart). THE CARD IS WHAT COUNTS. Prove the row's statement (the work); the ties are given (YtpclggcpobakhaaDoorTie.lean); close each card by the builder's one call (the guide's Derived/Test/ToyasCard.lean, 'card_holds'). Laid BY PROGRAM, IN A SANDBOX (cutbox-door.mjs). By AI agents, Wed Nov 11 2026. No macro, syntax, notation, axiom, sorry.
-/
import Derived.Test.YtpclggcpobakhaaDoorRows
import GoSem.ClaimSeven
namespace Go.Proofs.YtpclggcpobakhaaDoor
namespace Rows

/-- THE TIED CARD OF 'wardmotelaw18.GraphKnown'. -/
def graphKnownCard : Claim7 := { stood := { row := graphKnownRow, standIns := [], harness := (true, "82ce1e74de2c2fd0550f480b8e22d74a151c28bcdbfc0d49ae058a53b969b62b"), looks := false }, kinds := [], alts := [], laidByText := true, laidKinds := [.data], laidTests := true, laidLooks := .later }
def GraphKnownCardSaid : Prop := Claim7.holds Tryd.pinned (.plain (OpenSpec.ofChange graphKnownSpec)) graphKnownCard

/-- THE TIED CARD OF 'wardmotelaw18.GraphParts'. -/
def graphPartsCard : Claim7 := { stood := { row := graphPartsRow, standIns := [], harness := (true, "82ce1e74de2c2fd0550f480b8e22d74a151c28bcdbfc0d49ae058a53b969b62b"), looks := false }, kinds := [], alts := [], laidByText := true, laidKinds := [.data], laidTests := true, laidLooks := .later }
def GraphPartsCardSaid : Prop := Claim7.holds Tryd.pinned (.plain (OpenSpec.ofChange graphPartsSpec)) graphPartsCard

/-- THE TIED CARD OF 'wardmotelaw18.GraphCuts'. -/
def graphCutsCard : Claim7 := { stood := { row := graphCutsRow, standIns := [], harness := (true, "82ce1e74de2c2fd0550f480b8e22d74a151c28bcdbfc0d49ae058a53b969b62b"), looks := false }, kinds := [], alts := [], laidByText := true, laidKinds := [.data], laidTests := true, laidLooks := .later }
def GraphCutsCardSaid : Prop := Claim7.holds Tryd.pinned (.plain (OpenSpec.ofChange graphCutsSpec)) graphCutsCard

/-- THE TIED CARD OF 'wardmotelaw18.GraphPartitions'. -/
def graphPartitionsCard : Claim7 := { stood := { row := graphPartitionsRow, standIns := [], harness := (true, "82ce1e74de2c2fd0550f480b8e22d74a151c28bcdbfc0d49ae058a53b969b62b"), looks := false }, kinds := [], alts := [], laidByText := true, laidKinds := [.data], laidTests := true, laidLooks := .later }
def GraphPartitionsCardSaid : Prop := Claim7.holds Tryd.pinned (.plain (OpenSpec.ofChange graphPartitionsSpec)) graphPartitionsCard

/-- THE TIED CARD OF 'wardmotelaw18.GraphChecks'. -/
def graphChecksCard : Claim7 := { stood := { row := graphChecksRow, standIns := [], harness := (true, "82ce1e74de2c2fd0550f480b8e22d74a151c28bcdbfc0d49ae058a53b969b62b"), looks := false }, kinds := [], alts := [], laidByText := true, laidKinds := [.data], laidTests := true, laidLooks := .later }
def GraphChecksCardSaid : Prop := Claim7.holds Tryd.pinned (.plain (OpenSpec.ofChange graphChecksSpec)) graphChecksCard

/-- THE TIED CARD OF 'wardmotelaw18.GraphMakes'. -/
def graphMakesCard : Claim7 := { stood := { row := graphMakesRow, standIns := [], harness := (true, "82ce1e74de2c2fd0550f480b8e22d74a151c28bcdbfc0d49ae058a53b969b62b"), looks := false }, kinds := [], alts := [], laidByText := true, laidKinds := [.data], laidTests := true, laidLooks := .later }
def GraphMakesCardSaid : Prop := Claim7.holds Tryd.pinned (.plain (OpenSpec.ofChange graphMakesSpec)) graphMakesCard

/-- THE TIED CARD OF 'wardmotelaw18.GraphBorders'. -/
def graphBordersCard : Claim7 := { stood := { row := graphBordersRow, standIns := [], harness := (true, "82ce1e74de2c2fd0550f480b8e22d74a151c28bcdbfc0d49ae058a53b969b62b"), looks := false }, kinds := [], alts := [], laidByText := true, laidKinds := [.data], laidTests := true, laidLooks := .later }
def GraphBordersCardSaid : Prop := Claim7.holds Tryd.pinned (.plain (OpenSpec.ofChange graphBordersSpec)) graphBordersCard

/-- THE TIED CARD OF 'wardmotelaw18.GraphTears'. -/
def graphTearsCard : Claim7 := { stood := { row := graphTearsRow, standIns := [], harness := (true, "82ce1e74de2c2fd0550f480b8e22d74a151c28bcdbfc0d49ae058a53b969b62b"), looks := false }, kinds := [], alts := [], laidByText := true, laidKinds := [.data], laidTests := true, laidLooks := .later }
def GraphTearsCardSaid : Prop := Claim7.holds Tryd.pinned (.plain (OpenSpec.ofChange graphTearsSpec)) graphTearsCard

/-- THE TIED CARD OF 'wardmotelaw18.GraphWays'. -/
def graphWaysCard : Claim7 := { stood := { row := graphWaysRow, standIns := [], harness := (true, "82ce1e74de2c2fd0550f480b8e22d74a151c28bcdbfc0d49ae058a53b969b62b"), looks := false }, kinds := [], alts := [], laidByText := true, laidKinds := [.data], laidTests := true, laidLooks := .later }
def GraphWaysCardSaid : Prop := Claim7.holds Tryd.pinned (.plain (OpenSpec.ofChange graphWaysSpec)) graphWaysCard

/-- THE TIED CARD OF 'wardmotelaw18.GraphShrinks'. -/
def graphShrinksCard : Claim7 := { stood := { row := graphShrinksRow, standIns := [], harness := (true, "82ce1e74de2c2fd0550f480b8e22d74a151c28bcdbfc0d49ae058a53b969b62b"), looks := false }, kinds := [], alts := [], laidByText := true, laidKinds := [.data], laidTests := true, laidLooks := .later }
def GraphShrinksCardSaid : Prop := Claim7.holds Tryd.pinned (.plain (OpenSpec.ofChange graphShrinksSpec)) graphShrinksCard

/-- THE SECOND FORM's CARD OF 'wardmotelaw18.GraphKnown'. -/
def graphKnownUptoCard : Claim7 := { stood := { row := graphKnownUptoRow, standIns := [], harness := (true, "82ce1e74de2c2fd0550f480b8e22d74a151c28bcdbfc0d49ae058a53b969b62b"), looks := false }, kinds := [], alts := [], laidByText := true, laidKinds := [.data], laidTests := true, laidLooks := .later }
def GraphKnownUptoCardSaid : Prop := Claim7.holds Tryd.pinned (.plain (OpenSpec.upto graphKnownSpec)) graphKnownUptoCard

/-- THE SECOND FORM's CARD OF 'wardmotelaw18.GraphParts'. -/
def graphPartsUptoCard : Claim7 := { stood := { row := graphPartsUptoRow, standIns := [], harness := (true, "82ce1e74de2c2fd0550f480b8e22d74a151c28bcdbfc0d49ae058a53b969b62b"), looks := false }, kinds := [], alts := [], laidByText := true, laidKinds := [.data], laidTests := true, laidLooks := .later }
def GraphPartsUptoCardSaid : Prop := Claim7.holds Tryd.pinned (.plain (OpenSpec.upto graphPartsSpec)) graphPartsUptoCard

/-- THE SECOND FORM's CARD OF 'wardmotelaw18.GraphCuts'. -/
def graphCutsUptoCard : Claim7 := { stood := { row := graphCutsUptoRow, standIns := [], harness := (true, "82ce1e74de2c2fd0550f480b8e22d74a151c28bcdbfc0d49ae058a53b969b62b"), looks := false }, kinds := [], alts := [], laidByText := true, laidKinds := [.data], laidTests := true, laidLooks := .later }
def GraphCutsUptoCardSaid : Prop := Claim7.holds Tryd.pinned (.plain (OpenSpec.upto graphCutsSpec)) graphCutsUptoCard

/-- THE SECOND FORM's CARD OF 'wardmotelaw18.GraphPartitions'. -/
def graphPartitionsUptoCard : Claim7 := { stood := { row := graphPartitionsUptoRow, standIns := [], harness := (true, "82ce1e74de2c2fd0550f480b8e22d74a151c28bcdbfc0d49ae058a53b969b62b"), looks := false }, kinds := [], alts := [], laidByText := true, laidKinds := [.data], laidTests := true, laidLooks := .later }
def GraphPartitionsUptoCardSaid : Prop := Claim7.holds Tryd.pinned (.plain (OpenSpec.upto graphPartitionsSpec)) graphPartitionsUptoCard

/-- THE SECOND FORM's CARD OF 'wardmotelaw18.GraphChecks'. -/
def graphChecksUptoCard : Claim7 := { stood := { row := graphChecksUptoRow, standIns := [], harness := (true, "82ce1e74de2c2fd0550f480b8e22d74a151c28bcdbfc0d49ae058a53b969b62b"), looks := false }, kinds := [], alts := [], laidByText := true, laidKinds := [.data], laidTests := true, laidLooks := .later }
def GraphChecksUptoCardSaid : Prop := Claim7.holds Tryd.pinned (.plain (OpenSpec.upto graphChecksSpec)) graphChecksUptoCard

/-- THE SECOND FORM's CARD OF 'wardmotelaw18.GraphMakes'. -/
def graphMakesUptoCard : Claim7 := { stood := { row := graphMakesUptoRow, standIns := [], harness := (true, "82ce1e74de2c2fd0550f480b8e22d74a151c28bcdbfc0d49ae058a53b969b62b"), looks := false }, kinds := [], alts := [], laidByText := true, laidKinds := [.data], laidTests := true, laidLooks := .later }
def GraphMakesUptoCardSaid : Prop := Claim7.holds Tryd.pinned (.plain (OpenSpec.upto graphMakesSpec)) graphMakesUptoCard

/-- THE SECOND FORM's CARD OF 'wardmotelaw18.GraphBorders'. -/
def graphBordersUptoCard : Claim7 := { stood := { row := graphBordersUptoRow, standIns := [], harness := (true, "82ce1e74de2c2fd0550f480b8e22d74a151c28bcdbfc0d49ae058a53b969b62b"), looks := false }, kinds := [], alts := [], laidByText := true, laidKinds := [.data], laidTests := true, laidLooks := .later }
def GraphBordersUptoCardSaid : Prop := Claim7.holds Tryd.pinned (.plain (OpenSpec.upto graphBordersSpec)) graphBordersUptoCard

/-- THE SECOND FORM's CARD OF 'wardmotelaw18.GraphTears'. -/
def graphTearsUptoCard : Claim7 := { stood := { row := graphTearsUptoRow, standIns := [], harness := (true, "82ce1e74de2c2fd0550f480b8e22d74a151c28bcdbfc0d49ae058a53b969b62b"), looks := false }, kinds := [], alts := [], laidByText := true, laidKinds := [.data], laidTests := true, laidLooks := .later }
def GraphTearsUptoCardSaid : Prop := Claim7.holds Tryd.pinned (.plain (OpenSpec.upto graphTearsSpec)) graphTearsUptoCard

/-- THE SECOND FORM's CARD OF 'wardmotelaw18.GraphWays'. -/
def graphWaysUptoCard : Claim7 := { stood := { row := graphWaysUptoRow, standIns := [], harness := (true, "82ce1e74de2c2fd0550f480b8e22d74a151c28bcdbfc0d49ae058a53b969b62b"), looks := false }, kinds := [], alts := [], laidByText := true, laidKinds := [.data], laidTests := true, laidLooks := .later }
def GraphWaysUptoCardSaid : Prop := Claim7.holds Tryd.pinned (.plain (OpenSpec.upto graphWaysSpec)) graphWaysUptoCard

/-- THE SECOND FORM's CARD OF 'wardmotelaw18.GraphShrinks'. -/
def graphShrinksUptoCard : Claim7 := { stood := { row := graphShrinksUptoRow, standIns := [], harness := (true, "82ce1e74de2c2fd0550f480b8e22d74a151c28bcdbfc0d49ae058a53b969b62b"), looks := false }, kinds := [], alts := [], laidByText := true, laidKinds := [.data], laidTests := true, laidLooks := .later }
def GraphShrinksUptoCardSaid : Prop := Claim7.holds Tryd.pinned (.plain (OpenSpec.upto graphShrinksSpec)) graphShrinksUptoCard
end Rows
end Go.Proofs.YtpclggcpobakhaaDoor
