/-
  DERIVED. GIVEN WITH THE SEED: THE CARDS: each row of YtmpgmgjokliceaaGreatDoorRows.lean that lists a variable, with what it lists TIED to the program's text (the seventh form; the later family's looks); each row that meets fmt, with fmt's text TOLD by the authors' own Lean function (tested against real Go, not proved from fmt's source: count such statements apart). THE CARD IS WHAT COUNTS. Prove the row's statement (the work); the ties are given (YtmpgmgjokliceaaGreatDoorTie.lean); close each card by the builder's one call (the guide's Derived/Test/ToyasCard.lean, 'card_holds'). Laid BY PROGRAM, IN A SANDBOX (cutbox-door.mjs). By AI agents, Wed Nov 11 2026. No macro, syntax, notation, axiom, sorry.
-/
import Derived.Test.YtmpgmgjokliceaaGreatDoorRows
import GoSem.ClaimSeven
namespace Go.Proofs.YtmpgmgjokliceaaGreatDoor
namespace Rows

/-- THE TIED CARD OF 'swinglelaw32.PlanOf'. -/
def planOfCard : Claim7 := { stood := { row := planOfRow, standIns := [], harness := (true, "f1eb7e1b4b1a52dd73e9756af92e9ff15780e95aa58576eca818a0b99941a379"), looks := false }, kinds := [], alts := [], laidByText := true, laidKinds := [.data, .pinned], laidTests := true, laidLooks := .later }
def PlanOfCardSaid : Prop := Claim7.holds Tryz.pinned (.plain (OpenSpec.ofChange planOfSpec)) planOfCard

/-- THE TIED CARD OF 'swinglelaw32.PlanWhole'. -/
def planWholeCard : Claim7 := { stood := { row := planWholeRow, standIns := [], harness := (true, "f1eb7e1b4b1a52dd73e9756af92e9ff15780e95aa58576eca818a0b99941a379"), looks := false }, kinds := [], alts := [], laidByText := true, laidKinds := [.data, .pinned], laidTests := true, laidLooks := .later }
def PlanWholeCardSaid : Prop := Claim7.holds Tryz.pinned (.plain (OpenSpec.ofChange planWholeSpec)) planWholeCard

/-- THE TIED CARD OF 'swinglelaw26.ArchiveBack'. -/
def archiveBackCard : Claim7 := { stood := { row := archiveBackRow, standIns := [], harness := (true, "f1eb7e1b4b1a52dd73e9756af92e9ff15780e95aa58576eca818a0b99941a379"), looks := false }, kinds := [], alts := [], laidByText := true, laidKinds := [.data, .pinned], laidTests := true, laidLooks := .later }
def ArchiveBackCardSaid : Prop := Claim7.holds Tryz.pinned (.plain (OpenSpec.ofChange archiveBackSpec)) archiveBackCard

/-- THE SECOND FORM's CARD OF 'swinglelaw32.PlanOf'. -/
def planOfUptoCard : Claim7 := { stood := { row := planOfUptoRow, standIns := [], harness := (true, "f1eb7e1b4b1a52dd73e9756af92e9ff15780e95aa58576eca818a0b99941a379"), looks := false }, kinds := [], alts := [], laidByText := true, laidKinds := [.data, .pinned], laidTests := true, laidLooks := .later }
def PlanOfUptoCardSaid : Prop := Claim7.holds Tryz.pinned (.plain (OpenSpec.upto planOfSpec)) planOfUptoCard

/-- THE SECOND FORM's CARD OF 'swinglelaw32.PlanWhole'. -/
def planWholeUptoCard : Claim7 := { stood := { row := planWholeUptoRow, standIns := [], harness := (true, "f1eb7e1b4b1a52dd73e9756af92e9ff15780e95aa58576eca818a0b99941a379"), looks := false }, kinds := [], alts := [], laidByText := true, laidKinds := [.data, .pinned], laidTests := true, laidLooks := .later }
def PlanWholeUptoCardSaid : Prop := Claim7.holds Tryz.pinned (.plain (OpenSpec.upto planWholeSpec)) planWholeUptoCard

/-- THE SECOND FORM's CARD OF 'swinglelaw26.ArchiveBack'. -/
def archiveBackUptoCard : Claim7 := { stood := { row := archiveBackUptoRow, standIns := [], harness := (true, "f1eb7e1b4b1a52dd73e9756af92e9ff15780e95aa58576eca818a0b99941a379"), looks := false }, kinds := [], alts := [], laidByText := true, laidKinds := [.data, .pinned], laidTests := true, laidLooks := .later }
def ArchiveBackUptoCardSaid : Prop := Claim7.holds Tryz.pinned (.plain (OpenSpec.upto archiveBackSpec)) archiveBackUptoCard
end Rows
end Go.Proofs.YtmpgmgjokliceaaGreatDoor
