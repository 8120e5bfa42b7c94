/-
  DERIVED. GIVEN WITH THE SEED: THE CARDS: each row of YtnpehjgnplaabaaGreatDoorRows.lean that lists a variable, with what it lists TIED to the program's text (the seventh form; the later family's looks); each row that meets fmt, with fmt's text TOLD by the authors' own Lean function (tested against real Go, not proved from fmt's source: count such statements apart). THE CARD IS WHAT COUNTS. Prove the row's statement (the work); the ties are given (YtnpehjgnplaabaaGreatDoorTie.lean); close each card by the builder's one call (the guide's Derived/Test/ToyasCard.lean, 'card_holds'). Laid BY PROGRAM, IN A SANDBOX (cutbox-door.mjs). By AI agents, Wed Nov 11 2026. No macro, syntax, notation, axiom, sorry.
-/
import Derived.Test.YtnpehjgnplaabaaGreatDoorRows
import GoSem.ClaimSeven
namespace Go.Proofs.YtnpehjgnplaabaaGreatDoor
namespace Rows

/-- THE TIED CARD OF 'swinglelaw31.RegionResolves'. -/
def regionResolvesCard : Claim7 := { stood := { row := regionResolvesRow, standIns := [], harness := (true, "2b70ab25eb2291a9ee15c83eb934f65cc2ffb8843a677e29881d35080768bb8a"), looks := false }, kinds := [], alts := [], laidByText := true, laidKinds := [.data, .pinned], laidTests := true, laidLooks := .later }
def RegionResolvesCardSaid : Prop := Claim7.holds Tryz.pinned (.plain (OpenSpec.ofChange regionResolvesSpec)) regionResolvesCard

/-- THE TIED CARD OF 'swinglelaw31.RegionSides'. -/
def regionSidesCard : Claim7 := { stood := { row := regionSidesRow, standIns := [], harness := (true, "2b70ab25eb2291a9ee15c83eb934f65cc2ffb8843a677e29881d35080768bb8a"), looks := false }, kinds := [], alts := [], laidByText := true, laidKinds := [.data, .pinned], laidTests := true, laidLooks := .later }
def RegionSidesCardSaid : Prop := Claim7.holds Tryz.pinned (.plain (OpenSpec.ofChange regionSidesSpec)) regionSidesCard

/-- THE SECOND FORM's CARD OF 'swinglelaw31.RegionResolves'. -/
def regionResolvesUptoCard : Claim7 := { stood := { row := regionResolvesUptoRow, standIns := [], harness := (true, "2b70ab25eb2291a9ee15c83eb934f65cc2ffb8843a677e29881d35080768bb8a"), looks := false }, kinds := [], alts := [], laidByText := true, laidKinds := [.data, .pinned], laidTests := true, laidLooks := .later }
def RegionResolvesUptoCardSaid : Prop := Claim7.holds Tryz.pinned (.plain (OpenSpec.upto regionResolvesSpec)) regionResolvesUptoCard

/-- THE SECOND FORM's CARD OF 'swinglelaw31.RegionSides'. -/
def regionSidesUptoCard : Claim7 := { stood := { row := regionSidesUptoRow, standIns := [], harness := (true, "2b70ab25eb2291a9ee15c83eb934f65cc2ffb8843a677e29881d35080768bb8a"), looks := false }, kinds := [], alts := [], laidByText := true, laidKinds := [.data, .pinned], laidTests := true, laidLooks := .later }
def RegionSidesUptoCardSaid : Prop := Claim7.holds Tryz.pinned (.plain (OpenSpec.upto regionSidesSpec)) regionSidesUptoCard
end Rows
end Go.Proofs.YtnpehjgnplaabaaGreatDoor
