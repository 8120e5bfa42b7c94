/-
  DERIVED. GIVEN WITH THE SEED: THE CARDS: each row of YtlogdionhgabdaaDoorRows.lean that lists a variable, with what it lists TIED to the program's text (the seventh form; the later family's looks); each row that meets fmt, with fmt's text TOLD by the authors' own Lean function (tested against real Go, not proved from fmt's source: count such statements apart). THE CARD IS WHAT COUNTS. Prove the row's statement (the work); the ties are given (YtlogdionhgabdaaDoorTie.lean); close each card by the builder's one call (the guide's Derived/Test/ToyasCard.lean, 'card_holds'). Laid BY PROGRAM, IN A SANDBOX (cutbox-door.mjs). By AI agents, Wed Nov 11 2026. No macro, syntax, notation, axiom, sorry.
-/
import Derived.Test.YtlogdionhgabdaaDoorRows
import GoSem.ClaimSeven
namespace Go.Proofs.YtlogdionhgabdaaDoor
namespace Rows

/-- THE TIED CARD OF 'swinglelaw39.StatTallies'. -/
def statTalliesCard : Claim7 := { stood := { row := statTalliesRow, standIns := [], harness := (true, "1575f9a7c4e9e6504255966b82751d572b8e78befcf350a9128197ba2fad3b1c"), looks := false }, kinds := [], alts := [], laidByText := true, laidKinds := [.data, .pinned], laidTests := true, laidLooks := .later }
def StatTalliesCardSaid : Prop := Claim7.holds Tryd.pinned (.plain (OpenSpec.ofChange statTalliesSpec)) statTalliesCard

/-- THE SECOND FORM's CARD OF 'swinglelaw39.StatTallies'. -/
def statTalliesUptoCard : Claim7 := { stood := { row := statTalliesUptoRow, standIns := [], harness := (true, "1575f9a7c4e9e6504255966b82751d572b8e78befcf350a9128197ba2fad3b1c"), looks := false }, kinds := [], alts := [], laidByText := true, laidKinds := [.data, .pinned], laidTests := true, laidLooks := .later }
def StatTalliesUptoCardSaid : Prop := Claim7.holds Tryd.pinned (.plain (OpenSpec.upto statTalliesSpec)) statTalliesUptoCard
end Rows
end Go.Proofs.YtlogdionhgabdaaDoor
