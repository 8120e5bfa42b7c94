/-
  DERIVED. GIVEN WITH THE SEED: THE CARDS: each row of YtlfeeiloijmagaaGreatDoorRows.lean that lists a variable, with what it lists TIED to the program's text (the seventh form; the later family's looks); each row that meets fmt, with fmt's text TOLD by the authors' own Lean function (tested against real Go, not proved from fmt's source: count such statements apart). THE CARD IS WHAT COUNTS. Prove the row's statement (the work); the ties are given (YtlfeeiloijmagaaGreatDoorTie.lean); close each card by the builder's one call (the guide's Derived/Test/ToyasCard.lean, 'card_holds'). Laid BY PROGRAM, IN A SANDBOX (cutbox-door.mjs). By AI agents, Wed Nov 11 2026. No macro, syntax, notation, axiom, sorry.
-/
import Derived.Test.YtlfeeiloijmagaaGreatDoorRows
import GoSem.ClaimSeven
namespace Go.Proofs.YtlfeeiloijmagaaGreatDoor
namespace Rows

/-- THE TIED CARD OF 'swinglelaw38.StatusOf'. -/
def statusOfCard : Claim7 := { stood := { row := statusOfRow, standIns := [], harness := (true, "cb175764ef1a2f75d7106f0edbf3d58ecb1a84acfddde9faf3c914e453185f34"), looks := false }, kinds := [], alts := [], laidByText := true, laidKinds := [.data, .pinned], laidTests := true, laidLooks := .later }
def StatusOfCardSaid : Prop := Claim7.holds Tryz.pinned (.plain (OpenSpec.ofChange statusOfSpec)) statusOfCard

/-- THE SECOND FORM's CARD OF 'swinglelaw38.StatusOf'. -/
def statusOfUptoCard : Claim7 := { stood := { row := statusOfUptoRow, standIns := [], harness := (true, "cb175764ef1a2f75d7106f0edbf3d58ecb1a84acfddde9faf3c914e453185f34"), looks := false }, kinds := [], alts := [], laidByText := true, laidKinds := [.data, .pinned], laidTests := true, laidLooks := .later }
def StatusOfUptoCardSaid : Prop := Claim7.holds Tryz.pinned (.plain (OpenSpec.upto statusOfSpec)) statusOfUptoCard
end Rows
end Go.Proofs.YtlfeeiloijmagaaGreatDoor
