/-
  DERIVED. GIVEN WITH THE SEED: THE CARDS: each row of YteofiffbobbdmaaGreatDoorRows.lean that lists a variable, with what it lists TIED to the program's text (the seventh form; the later family's looks); each row that meets fmt, with fmt's text TOLD by the authors' own Lean function (tested against real Go, not proved from fmt's source: count such statements apart). THE CARD IS WHAT COUNTS. Prove the row's statement (the work); the ties are given (YteofiffbobbdmaaGreatDoorTie.lean); close each card by the builder's one call (the guide's Derived/Test/ToyasCard.lean, 'card_holds'). Laid BY PROGRAM, IN A SANDBOX (cutbox-door.mjs). By AI agents, Wed Nov 11 2026. No macro, syntax, notation, axiom, sorry.
-/
import Derived.Test.YteofiffbobbdmaaGreatDoorRows
import GoSem.ClaimSeven
namespace Go.Proofs.YteofiffbobbdmaaGreatDoor
namespace Rows

/-- THE TIED CARD OF 'swinglelaw29.DetectFinds'. -/
def detectFindsCard : Claim7 := { stood := { row := detectFindsRow, standIns := [], harness := (true, "5a5490648bf5ad8bc7fb1cbf46ee5416ae5bfbbd890612373e3e06b04f2a9ed5"), looks := false }, kinds := [], alts := [], laidByText := true, laidKinds := [.data, .pinned], laidTests := true, laidLooks := .later }
def DetectFindsCardSaid : Prop := Claim7.holds Tryz.pinned (.plain (OpenSpec.ofChange detectFindsSpec)) detectFindsCard

/-- THE TIED CARD OF 'swinglelaw29.DetectNone'. -/
def detectNoneCard : Claim7 := { stood := { row := detectNoneRow, standIns := [], harness := (true, "5a5490648bf5ad8bc7fb1cbf46ee5416ae5bfbbd890612373e3e06b04f2a9ed5"), looks := false }, kinds := [], alts := [], laidByText := true, laidKinds := [.data, .pinned], laidTests := true, laidLooks := .later }
def DetectNoneCardSaid : Prop := Claim7.holds Tryz.pinned (.plain (OpenSpec.ofChange detectNoneSpec)) detectNoneCard

/-- THE TIED CARD OF 'swinglelaw30.ReconAll'. -/
def reconAllCard : Claim7 := { stood := { row := reconAllRow, standIns := [], harness := (true, "5a5490648bf5ad8bc7fb1cbf46ee5416ae5bfbbd890612373e3e06b04f2a9ed5"), looks := false }, kinds := [], alts := [], laidByText := true, laidKinds := [.data, .pinned], laidTests := true, laidLooks := .later }
def ReconAllCardSaid : Prop := Claim7.holds Tryz.pinned (.plain (OpenSpec.ofChange reconAllSpec)) reconAllCard

/-- THE TIED CARD OF 'swinglelaw30.ReconTurns'. -/
def reconTurnsCard : Claim7 := { stood := { row := reconTurnsRow, standIns := [], harness := (true, "5a5490648bf5ad8bc7fb1cbf46ee5416ae5bfbbd890612373e3e06b04f2a9ed5"), looks := false }, kinds := [], alts := [], laidByText := true, laidKinds := [.data, .pinned], laidTests := true, laidLooks := .later }
def ReconTurnsCardSaid : Prop := Claim7.holds Tryz.pinned (.plain (OpenSpec.ofChange reconTurnsSpec)) reconTurnsCard

/-- THE SECOND FORM's CARD OF 'swinglelaw29.DetectFinds'. -/
def detectFindsUptoCard : Claim7 := { stood := { row := detectFindsUptoRow, standIns := [], harness := (true, "5a5490648bf5ad8bc7fb1cbf46ee5416ae5bfbbd890612373e3e06b04f2a9ed5"), looks := false }, kinds := [], alts := [], laidByText := true, laidKinds := [.data, .pinned], laidTests := true, laidLooks := .later }
def DetectFindsUptoCardSaid : Prop := Claim7.holds Tryz.pinned (.plain (OpenSpec.upto detectFindsSpec)) detectFindsUptoCard

/-- THE SECOND FORM's CARD OF 'swinglelaw29.DetectNone'. -/
def detectNoneUptoCard : Claim7 := { stood := { row := detectNoneUptoRow, standIns := [], harness := (true, "5a5490648bf5ad8bc7fb1cbf46ee5416ae5bfbbd890612373e3e06b04f2a9ed5"), looks := false }, kinds := [], alts := [], laidByText := true, laidKinds := [.data, .pinned], laidTests := true, laidLooks := .later }
def DetectNoneUptoCardSaid : Prop := Claim7.holds Tryz.pinned (.plain (OpenSpec.upto detectNoneSpec)) detectNoneUptoCard

/-- THE SECOND FORM's CARD OF 'swinglelaw30.ReconAll'. -/
def reconAllUptoCard : Claim7 := { stood := { row := reconAllUptoRow, standIns := [], harness := (true, "5a5490648bf5ad8bc7fb1cbf46ee5416ae5bfbbd890612373e3e06b04f2a9ed5"), looks := false }, kinds := [], alts := [], laidByText := true, laidKinds := [.data, .pinned], laidTests := true, laidLooks := .later }
def ReconAllUptoCardSaid : Prop := Claim7.holds Tryz.pinned (.plain (OpenSpec.upto reconAllSpec)) reconAllUptoCard

/-- THE SECOND FORM's CARD OF 'swinglelaw30.ReconTurns'. -/
def reconTurnsUptoCard : Claim7 := { stood := { row := reconTurnsUptoRow, standIns := [], harness := (true, "5a5490648bf5ad8bc7fb1cbf46ee5416ae5bfbbd890612373e3e06b04f2a9ed5"), looks := false }, kinds := [], alts := [], laidByText := true, laidKinds := [.data, .pinned], laidTests := true, laidLooks := .later }
def ReconTurnsUptoCardSaid : Prop := Claim7.holds Tryz.pinned (.plain (OpenSpec.upto reconTurnsSpec)) reconTurnsUptoCard
end Rows
end Go.Proofs.YteofiffbobbdmaaGreatDoor
