/-
  DERIVED. GIVEN WITH THE SEED: THE CARDS: each row of YtjglkbbhihlcgaaDoorRows.lean that lists a variable, with what it lists TIED to the program's text (the seventh form; the later family's looks); each row that meets fmt, with fmt's text TOLD by the authors' own Lean function (tested against real Go, not proved from fmt's source: count such statements apart). THE CARD IS WHAT COUNTS. Prove the row's statement (the work); the ties are given (YtjglkbbhihlcgaaDoorTie.lean); close each card by the builder's one call (the guide's Derived/Test/ToyasCard.lean, 'card_holds'). Laid BY PROGRAM, IN A SANDBOX (cutbox-door.mjs). By AI agents, Wed Nov 11 2026. No macro, syntax, notation, axiom, sorry.
-/
import Derived.Test.YtjglkbbhihlcgaaDoorRows
import GoSem.ClaimSeven
namespace Go.Proofs.YtjglkbbhihlcgaaDoor
namespace Rows

/-- THE TIED CARD OF 'swinglelaw13.NameCleans'. -/
def nameCleansCard : Claim7 := { stood := { row := nameCleansRow, standIns := [], harness := (true, "14149352b08cc662b86ace38c59f2e522686874f7bcf30630da962c3e0ec62ca"), looks := false }, kinds := [], alts := [], laidByText := true, laidKinds := [.data, .pinned], laidTests := true, laidLooks := .later }
def NameCleansCardSaid : Prop := Claim7.holds Tryd.pinned (.plain (OpenSpec.ofChange nameCleansSpec)) nameCleansCard

/-- THE TIED CARD OF 'swinglelaw42.PickLong'. -/
def pickLongCard : Claim7 := { stood := { row := pickLongRow, standIns := [], harness := (true, "14149352b08cc662b86ace38c59f2e522686874f7bcf30630da962c3e0ec62ca"), looks := false }, kinds := [], alts := [], laidByText := true, laidKinds := [.data, .pinned], laidTests := true, laidLooks := .later }
def PickLongCardSaid : Prop := Claim7.holds Tryd.pinned (.plain (OpenSpec.ofChange pickLongSpec)) pickLongCard

/-- THE TIED CARD OF 'swinglelaw42.PickMatches'. -/
def pickMatchesCard : Claim7 := { stood := { row := pickMatchesRow, standIns := [], harness := (true, "14149352b08cc662b86ace38c59f2e522686874f7bcf30630da962c3e0ec62ca"), looks := false }, kinds := [], alts := [], laidByText := true, laidKinds := [.data, .pinned], laidTests := true, laidLooks := .later }
def PickMatchesCardSaid : Prop := Claim7.holds Tryd.pinned (.plain (OpenSpec.ofChange pickMatchesSpec)) pickMatchesCard

/-- THE TIED CARD OF 'swinglelaw13.NameParts'. -/
def namePartsCard : Claim7 := { stood := { row := namePartsRow, standIns := [], harness := (true, "14149352b08cc662b86ace38c59f2e522686874f7bcf30630da962c3e0ec62ca"), looks := false }, kinds := [], alts := [], laidByText := true, laidKinds := [.data, .pinned], laidTests := true, laidLooks := .later }
def NamePartsCardSaid : Prop := Claim7.holds Tryd.pinned (.plain (OpenSpec.ofChange namePartsSpec)) namePartsCard

/-- THE TIED CARD OF 'swinglelaw13.NameOrders'. -/
def nameOrdersCard : Claim7 := { stood := { row := nameOrdersRow, standIns := [], harness := (true, "14149352b08cc662b86ace38c59f2e522686874f7bcf30630da962c3e0ec62ca"), looks := false }, kinds := [], alts := [], laidByText := true, laidKinds := [.data, .pinned], laidTests := true, laidLooks := .later }
def NameOrdersCardSaid : Prop := Claim7.holds Tryd.pinned (.plain (OpenSpec.ofChange nameOrdersSpec)) nameOrdersCard

/-- THE TIED CARD OF 'swinglelaw13.NameNear'. -/
def nameNearCard : Claim7 := { stood := { row := nameNearRow, standIns := [], harness := (true, "14149352b08cc662b86ace38c59f2e522686874f7bcf30630da962c3e0ec62ca"), looks := false }, kinds := [], alts := [], laidByText := true, laidKinds := [.data, .pinned], laidTests := true, laidLooks := .later }
def NameNearCardSaid : Prop := Claim7.holds Tryd.pinned (.plain (OpenSpec.ofChange nameNearSpec)) nameNearCard

/-- THE SECOND FORM's CARD OF 'swinglelaw13.NameCleans'. -/
def nameCleansUptoCard : Claim7 := { stood := { row := nameCleansUptoRow, standIns := [], harness := (true, "14149352b08cc662b86ace38c59f2e522686874f7bcf30630da962c3e0ec62ca"), looks := false }, kinds := [], alts := [], laidByText := true, laidKinds := [.data, .pinned], laidTests := true, laidLooks := .later }
def NameCleansUptoCardSaid : Prop := Claim7.holds Tryd.pinned (.plain (OpenSpec.upto nameCleansSpec)) nameCleansUptoCard

/-- THE SECOND FORM's CARD OF 'swinglelaw42.PickLong'. -/
def pickLongUptoCard : Claim7 := { stood := { row := pickLongUptoRow, standIns := [], harness := (true, "14149352b08cc662b86ace38c59f2e522686874f7bcf30630da962c3e0ec62ca"), looks := false }, kinds := [], alts := [], laidByText := true, laidKinds := [.data, .pinned], laidTests := true, laidLooks := .later }
def PickLongUptoCardSaid : Prop := Claim7.holds Tryd.pinned (.plain (OpenSpec.upto pickLongSpec)) pickLongUptoCard

/-- THE SECOND FORM's CARD OF 'swinglelaw42.PickMatches'. -/
def pickMatchesUptoCard : Claim7 := { stood := { row := pickMatchesUptoRow, standIns := [], harness := (true, "14149352b08cc662b86ace38c59f2e522686874f7bcf30630da962c3e0ec62ca"), looks := false }, kinds := [], alts := [], laidByText := true, laidKinds := [.data, .pinned], laidTests := true, laidLooks := .later }
def PickMatchesUptoCardSaid : Prop := Claim7.holds Tryd.pinned (.plain (OpenSpec.upto pickMatchesSpec)) pickMatchesUptoCard

/-- THE SECOND FORM's CARD OF 'swinglelaw13.NameParts'. -/
def namePartsUptoCard : Claim7 := { stood := { row := namePartsUptoRow, standIns := [], harness := (true, "14149352b08cc662b86ace38c59f2e522686874f7bcf30630da962c3e0ec62ca"), looks := false }, kinds := [], alts := [], laidByText := true, laidKinds := [.data, .pinned], laidTests := true, laidLooks := .later }
def NamePartsUptoCardSaid : Prop := Claim7.holds Tryd.pinned (.plain (OpenSpec.upto namePartsSpec)) namePartsUptoCard

/-- THE SECOND FORM's CARD OF 'swinglelaw13.NameOrders'. -/
def nameOrdersUptoCard : Claim7 := { stood := { row := nameOrdersUptoRow, standIns := [], harness := (true, "14149352b08cc662b86ace38c59f2e522686874f7bcf30630da962c3e0ec62ca"), looks := false }, kinds := [], alts := [], laidByText := true, laidKinds := [.data, .pinned], laidTests := true, laidLooks := .later }
def NameOrdersUptoCardSaid : Prop := Claim7.holds Tryd.pinned (.plain (OpenSpec.upto nameOrdersSpec)) nameOrdersUptoCard

/-- THE SECOND FORM's CARD OF 'swinglelaw13.NameNear'. -/
def nameNearUptoCard : Claim7 := { stood := { row := nameNearUptoRow, standIns := [], harness := (true, "14149352b08cc662b86ace38c59f2e522686874f7bcf30630da962c3e0ec62ca"), looks := false }, kinds := [], alts := [], laidByText := true, laidKinds := [.data, .pinned], laidTests := true, laidLooks := .later }
def NameNearUptoCardSaid : Prop := Claim7.holds Tryd.pinned (.plain (OpenSpec.upto nameNearSpec)) nameNearUptoCard
end Rows
end Go.Proofs.YtjglkbbhihlcgaaDoor
