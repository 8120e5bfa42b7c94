/-
  DERIVED. GIVEN WITH THE SEED: THE CARDS: each row of YtpnkgldpmalklaaDoorRows.lean that lists a variable, with what it lists TIED to the program's text (the seventh form; the later family's looks); each row that meets fmt, with fmt's text TOLD by the authors' own Lean function (tested against real Go, not proved from fmt's source: count such statements apart). THE CARD IS WHAT COUNTS. Prove the row's statement (the work); the ties are given (YtpnkgldpmalklaaDoorTie.lean); close each card by the builder's one call (the guide's Derived/Test/ToyasCard.lean, 'card_holds'). Laid BY PROGRAM, IN A SANDBOX (cutbox-door.mjs). By AI agents, Wed Nov 11 2026. No macro, syntax, notation, axiom, sorry.
-/
import Derived.Test.YtpnkgldpmalklaaDoorRows
import GoSem.ClaimSeven
namespace Go.Proofs.YtpnkgldpmalklaaDoor
namespace Rows

/-- THE TIED CARD OF 'swinglelaw38.StatusLines'. -/
def statusLinesCard : Claim7 := { stood := { row := statusLinesRow, standIns := [], harness := (true, "166d8a480d762822b0810f1853b4d2a32f66bd75ab60c6c0ac2b4ec7fd7c5ce5"), looks := false }, kinds := [], alts := [], laidByText := true, laidKinds := [.data, .pinned], laidTests := true, laidLooks := .later }
def StatusLinesCardSaid : Prop := Claim7.holds Tryd.pinned (.plain (OpenSpec.ofChange statusLinesSpec)) statusLinesCard

/-- THE SECOND FORM's CARD OF 'swinglelaw38.StatusLines'. -/
def statusLinesUptoCard : Claim7 := { stood := { row := statusLinesUptoRow, standIns := [], harness := (true, "166d8a480d762822b0810f1853b4d2a32f66bd75ab60c6c0ac2b4ec7fd7c5ce5"), looks := false }, kinds := [], alts := [], laidByText := true, laidKinds := [.data, .pinned], laidTests := true, laidLooks := .later }
def StatusLinesUptoCardSaid : Prop := Claim7.holds Tryd.pinned (.plain (OpenSpec.upto statusLinesSpec)) statusLinesUptoCard
end Rows
end Go.Proofs.YtpnkgldpmalklaaDoor
