/-
  DERIVED. GIVEN WITH THE SEED: THE CARDS: each row of YtihiakkeloejlaaGreatDoorRows.lean that lists a variable, with what it lists TIED to the program's text (the seventh form; the later family's looks); each row that meets fmt, with fmt's text TOLD by the authors' own Lean function (tested against real Go, not proved from fmt's source: count such statements apart). THE CARD IS WHAT COUNTS. Prove the row's statement (the work); the ties are given (YtihiakkeloejlaaGreatDoorTie.lean); close each card by the builder's one call (the guide's Derived/Test/ToyasCard.lean, 'card_holds'). Laid BY PROGRAM, IN A SANDBOX (cutbox-door.mjs). By AI agents, Wed Nov 11 2026. No macro, syntax, notation, axiom, sorry.
-/
import Derived.Test.YtihiakkeloejlaaGreatDoorRows
import GoSem.ClaimSeven
namespace Go.Proofs.YtihiakkeloejlaaGreatDoor
namespace Rows

/-- THE TIED CARD OF 'swinglelaw41.DiffTurns'. -/
def diffTurnsCard : Claim7 := { stood := { row := diffTurnsRow, standIns := [], harness := (true, "212680dff7b04b45d77d19aa4b8889baafe12e52b25f01d8e7f7a489697c3173"), looks := false }, kinds := [], alts := [], laidByText := true, laidKinds := [.data, .pinned], laidTests := true, laidLooks := .later }
def DiffTurnsCardSaid : Prop := Claim7.holds Tryz.pinned (.plain (OpenSpec.ofChange diffTurnsSpec)) diffTurnsCard

/-- THE TIED CARD OF 'swinglelaw41.DiffOf'. -/
def diffOfCard : Claim7 := { stood := { row := diffOfRow, standIns := [], harness := (true, "212680dff7b04b45d77d19aa4b8889baafe12e52b25f01d8e7f7a489697c3173"), looks := false }, kinds := [], alts := [], laidByText := true, laidKinds := [.data, .pinned], laidTests := true, laidLooks := .later }
def DiffOfCardSaid : Prop := Claim7.holds Tryz.pinned (.plain (OpenSpec.ofChange diffOfSpec)) diffOfCard

/-- THE TIED CARD OF 'swinglelaw41.DiffLines'. -/
def diffLinesCard : Claim7 := { stood := { row := diffLinesRow, standIns := [], harness := (true, "212680dff7b04b45d77d19aa4b8889baafe12e52b25f01d8e7f7a489697c3173"), looks := false }, kinds := [], alts := [], laidByText := true, laidKinds := [.data, .pinned], laidTests := true, laidLooks := .later }
def DiffLinesCardSaid : Prop := Claim7.holds Tryz.pinned (.plain (OpenSpec.ofChange diffLinesSpec)) diffLinesCard

/-- THE SECOND FORM's CARD OF 'swinglelaw41.DiffTurns'. -/
def diffTurnsUptoCard : Claim7 := { stood := { row := diffTurnsUptoRow, standIns := [], harness := (true, "212680dff7b04b45d77d19aa4b8889baafe12e52b25f01d8e7f7a489697c3173"), looks := false }, kinds := [], alts := [], laidByText := true, laidKinds := [.data, .pinned], laidTests := true, laidLooks := .later }
def DiffTurnsUptoCardSaid : Prop := Claim7.holds Tryz.pinned (.plain (OpenSpec.upto diffTurnsSpec)) diffTurnsUptoCard

/-- THE SECOND FORM's CARD OF 'swinglelaw41.DiffOf'. -/
def diffOfUptoCard : Claim7 := { stood := { row := diffOfUptoRow, standIns := [], harness := (true, "212680dff7b04b45d77d19aa4b8889baafe12e52b25f01d8e7f7a489697c3173"), looks := false }, kinds := [], alts := [], laidByText := true, laidKinds := [.data, .pinned], laidTests := true, laidLooks := .later }
def DiffOfUptoCardSaid : Prop := Claim7.holds Tryz.pinned (.plain (OpenSpec.upto diffOfSpec)) diffOfUptoCard

/-- THE SECOND FORM's CARD OF 'swinglelaw41.DiffLines'. -/
def diffLinesUptoCard : Claim7 := { stood := { row := diffLinesUptoRow, standIns := [], harness := (true, "212680dff7b04b45d77d19aa4b8889baafe12e52b25f01d8e7f7a489697c3173"), looks := false }, kinds := [], alts := [], laidByText := true, laidKinds := [.data, .pinned], laidTests := true, laidLooks := .later }
def DiffLinesUptoCardSaid : Prop := Claim7.holds Tryz.pinned (.plain (OpenSpec.upto diffLinesSpec)) diffLinesUptoCard
end Rows
end Go.Proofs.YtihiakkeloejlaaGreatDoor
