/-
  DERIVED. GIVEN WITH THE SEED: THE CARDS: each row of YtpkadoocdgdcfaaGreatDoorRows.lean that lists a variable, with what it lists TIED to the program's text (the seventh form; the later family's looks); each row that meets fmt, with fmt's text TOLD by the authors' own Lean function (tested against real Go, not proved from fmt's source: count such statements apart). THE CARD IS WHAT COUNTS. Prove the row's statement (the work); the ties are given (YtpkadoocdgdcfaaGreatDoorTie.lean); close each card by the builder's one call (the guide's Derived/Test/ToyasCard.lean, 'card_holds'). Laid BY PROGRAM, IN A SANDBOX (cutbox-door.mjs). By AI agents, Wed Nov 11 2026. No macro, syntax, notation, axiom, sorry.
-/
import Derived.Test.YtpkadoocdgdcfaaGreatDoorRows
import GoSem.ClaimSeven
namespace Go.Proofs.YtpkadoocdgdcfaaGreatDoor
namespace Rows

/-- THE TIED CARD OF 'wardmotelaw33.KernelReaches'. -/
def kernelReachesCard : Claim7 := { stood := { row := kernelReachesRow, standIns := [], harness := (true, "7ed4efec7082863ae92dc7b4ea49dae50f3f88a22c1d752c4aaf162593c22787"), looks := false }, kinds := [], alts := [], laidByText := true, laidKinds := [.data], laidTests := true, laidLooks := .later }
def KernelReachesCardSaid : Prop := Claim7.holds Tryz.pinned (.plain (OpenSpec.ofChange kernelReachesSpec)) kernelReachesCard

/-- THE TIED CARD OF 'wardmotelaw33.KernelClasses'. -/
def kernelClassesCard : Claim7 := { stood := { row := kernelClassesRow, standIns := [], harness := (true, "7ed4efec7082863ae92dc7b4ea49dae50f3f88a22c1d752c4aaf162593c22787"), looks := false }, kinds := [], alts := [], laidByText := true, laidKinds := [.data], laidTests := true, laidLooks := .later }
def KernelClassesCardSaid : Prop := Claim7.holds Tryz.pinned (.plain (OpenSpec.ofChange kernelClassesSpec)) kernelClassesCard

/-- THE TIED CARD OF 'wardmotelaw33.KernelTurns'. -/
def kernelTurnsCard : Claim7 := { stood := { row := kernelTurnsRow, standIns := [], harness := (true, "7ed4efec7082863ae92dc7b4ea49dae50f3f88a22c1d752c4aaf162593c22787"), looks := false }, kinds := [], alts := [], laidByText := true, laidKinds := [.data], laidTests := true, laidLooks := .later }
def KernelTurnsCardSaid : Prop := Claim7.holds Tryz.pinned (.plain (OpenSpec.ofChange kernelTurnsSpec)) kernelTurnsCard

/-- THE TIED CARD OF 'wardmotelaw33.KernelAfters'. -/
def kernelAftersCard : Claim7 := { stood := { row := kernelAftersRow, standIns := [], harness := (true, "7ed4efec7082863ae92dc7b4ea49dae50f3f88a22c1d752c4aaf162593c22787"), looks := false }, kinds := [], alts := [], laidByText := true, laidKinds := [.data], laidTests := true, laidLooks := .later }
def KernelAftersCardSaid : Prop := Claim7.holds Tryz.pinned (.plain (OpenSpec.ofChange kernelAftersSpec)) kernelAftersCard

/-- THE TIED CARD OF 'wardmotelaw33.KernelFilters'. -/
def kernelFiltersCard : Claim7 := { stood := { row := kernelFiltersRow, standIns := [], harness := (true, "7ed4efec7082863ae92dc7b4ea49dae50f3f88a22c1d752c4aaf162593c22787"), looks := false }, kinds := [], alts := [], laidByText := true, laidKinds := [.data], laidTests := true, laidLooks := .later }
def KernelFiltersCardSaid : Prop := Claim7.holds Tryz.pinned (.plain (OpenSpec.ofChange kernelFiltersSpec)) kernelFiltersCard

/-- THE TIED CARD OF 'wardmotelaw33.KernelPlans'. -/
def kernelPlansCard : Claim7 := { stood := { row := kernelPlansRow, standIns := [], harness := (true, "7ed4efec7082863ae92dc7b4ea49dae50f3f88a22c1d752c4aaf162593c22787"), looks := false }, kinds := [], alts := [], laidByText := true, laidKinds := [.data], laidTests := true, laidLooks := .later }
def KernelPlansCardSaid : Prop := Claim7.holds Tryz.pinned (.plain (OpenSpec.ofChange kernelPlansSpec)) kernelPlansCard

/-- THE TIED CARD OF 'wardmotelaw33.KernelKnown'. -/
def kernelKnownCard : Claim7 := { stood := { row := kernelKnownRow, standIns := [], harness := (true, "7ed4efec7082863ae92dc7b4ea49dae50f3f88a22c1d752c4aaf162593c22787"), looks := false }, kinds := [], alts := [], laidByText := true, laidKinds := [.data], laidTests := true, laidLooks := .later }
def KernelKnownCardSaid : Prop := Claim7.holds Tryz.pinned (.plain (OpenSpec.ofChange kernelKnownSpec)) kernelKnownCard

/-- THE TIED CARD OF 'wardmotelaw33.KernelSums'. -/
def kernelSumsCard : Claim7 := { stood := { row := kernelSumsRow, standIns := [], harness := (true, "7ed4efec7082863ae92dc7b4ea49dae50f3f88a22c1d752c4aaf162593c22787"), looks := false }, kinds := [], alts := [], laidByText := true, laidKinds := [.data], laidTests := true, laidLooks := .later }
def KernelSumsCardSaid : Prop := Claim7.holds Tryz.pinned (.plain (OpenSpec.ofChange kernelSumsSpec)) kernelSumsCard

/-- THE SECOND FORM's CARD OF 'wardmotelaw33.KernelReaches'. -/
def kernelReachesUptoCard : Claim7 := { stood := { row := kernelReachesUptoRow, standIns := [], harness := (true, "7ed4efec7082863ae92dc7b4ea49dae50f3f88a22c1d752c4aaf162593c22787"), looks := false }, kinds := [], alts := [], laidByText := true, laidKinds := [.data], laidTests := true, laidLooks := .later }
def KernelReachesUptoCardSaid : Prop := Claim7.holds Tryz.pinned (.plain (OpenSpec.upto kernelReachesSpec)) kernelReachesUptoCard

/-- THE SECOND FORM's CARD OF 'wardmotelaw33.KernelClasses'. -/
def kernelClassesUptoCard : Claim7 := { stood := { row := kernelClassesUptoRow, standIns := [], harness := (true, "7ed4efec7082863ae92dc7b4ea49dae50f3f88a22c1d752c4aaf162593c22787"), looks := false }, kinds := [], alts := [], laidByText := true, laidKinds := [.data], laidTests := true, laidLooks := .later }
def KernelClassesUptoCardSaid : Prop := Claim7.holds Tryz.pinned (.plain (OpenSpec.upto kernelClassesSpec)) kernelClassesUptoCard

/-- THE SECOND FORM's CARD OF 'wardmotelaw33.KernelTurns'. -/
def kernelTurnsUptoCard : Claim7 := { stood := { row := kernelTurnsUptoRow, standIns := [], harness := (true, "7ed4efec7082863ae92dc7b4ea49dae50f3f88a22c1d752c4aaf162593c22787"), looks := false }, kinds := [], alts := [], laidByText := true, laidKinds := [.data], laidTests := true, laidLooks := .later }
def KernelTurnsUptoCardSaid : Prop := Claim7.holds Tryz.pinned (.plain (OpenSpec.upto kernelTurnsSpec)) kernelTurnsUptoCard

/-- THE SECOND FORM's CARD OF 'wardmotelaw33.KernelAfters'. -/
def kernelAftersUptoCard : Claim7 := { stood := { row := kernelAftersUptoRow, standIns := [], harness := (true, "7ed4efec7082863ae92dc7b4ea49dae50f3f88a22c1d752c4aaf162593c22787"), looks := false }, kinds := [], alts := [], laidByText := true, laidKinds := [.data], laidTests := true, laidLooks := .later }
def KernelAftersUptoCardSaid : Prop := Claim7.holds Tryz.pinned (.plain (OpenSpec.upto kernelAftersSpec)) kernelAftersUptoCard

/-- THE SECOND FORM's CARD OF 'wardmotelaw33.KernelFilters'. -/
def kernelFiltersUptoCard : Claim7 := { stood := { row := kernelFiltersUptoRow, standIns := [], harness := (true, "7ed4efec7082863ae92dc7b4ea49dae50f3f88a22c1d752c4aaf162593c22787"), looks := false }, kinds := [], alts := [], laidByText := true, laidKinds := [.data], laidTests := true, laidLooks := .later }
def KernelFiltersUptoCardSaid : Prop := Claim7.holds Tryz.pinned (.plain (OpenSpec.upto kernelFiltersSpec)) kernelFiltersUptoCard

/-- THE SECOND FORM's CARD OF 'wardmotelaw33.KernelPlans'. -/
def kernelPlansUptoCard : Claim7 := { stood := { row := kernelPlansUptoRow, standIns := [], harness := (true, "7ed4efec7082863ae92dc7b4ea49dae50f3f88a22c1d752c4aaf162593c22787"), looks := false }, kinds := [], alts := [], laidByText := true, laidKinds := [.data], laidTests := true, laidLooks := .later }
def KernelPlansUptoCardSaid : Prop := Claim7.holds Tryz.pinned (.plain (OpenSpec.upto kernelPlansSpec)) kernelPlansUptoCard

/-- THE SECOND FORM's CARD OF 'wardmotelaw33.KernelKnown'. -/
def kernelKnownUptoCard : Claim7 := { stood := { row := kernelKnownUptoRow, standIns := [], harness := (true, "7ed4efec7082863ae92dc7b4ea49dae50f3f88a22c1d752c4aaf162593c22787"), looks := false }, kinds := [], alts := [], laidByText := true, laidKinds := [.data], laidTests := true, laidLooks := .later }
def KernelKnownUptoCardSaid : Prop := Claim7.holds Tryz.pinned (.plain (OpenSpec.upto kernelKnownSpec)) kernelKnownUptoCard

/-- THE SECOND FORM's CARD OF 'wardmotelaw33.KernelSums'. -/
def kernelSumsUptoCard : Claim7 := { stood := { row := kernelSumsUptoRow, standIns := [], harness := (true, "7ed4efec7082863ae92dc7b4ea49dae50f3f88a22c1d752c4aaf162593c22787"), looks := false }, kinds := [], alts := [], laidByText := true, laidKinds := [.data], laidTests := true, laidLooks := .later }
def KernelSumsUptoCardSaid : Prop := Claim7.holds Tryz.pinned (.plain (OpenSpec.upto kernelSumsSpec)) kernelSumsUptoCard
end Rows
end Go.Proofs.YtpkadoocdgdcfaaGreatDoor
