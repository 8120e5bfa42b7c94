/-
  DERIVED. GIVEN WITH THE SEED: THE CARDS: each row of YtcpmhjealiajpaaGreatDoorRows.lean that lists a variable, with what it lists TIED to the program's text (the seventh form; the later family's looks); each row that meets fmt, with fmt's text TOLD by the authors' own Lean function (tested against real Go, not proved from fmt's source: count such statements apart). THE CARD IS WHAT COUNTS. Prove the row's statement (the work); the ties are given (YtcpmhjealiajpaaGreatDoorTie.lean); close each card by the builder's one call (the guide's Derived/Test/ToyasCard.lean, 'card_holds'). Laid BY PROGRAM, IN A SANDBOX (cutbox-door.mjs). By AI agents, Wed Nov 11 2026. No macro, syntax, notation, axiom, sorry.
-/
import Derived.Test.YtcpmhjealiajpaaGreatDoorRows
import GoSem.ClaimSeven
namespace Go.Proofs.YtcpmhjealiajpaaGreatDoor
namespace Rows

/-- THE TIED CARD OF 'swinglelaw16.TreePlays'. -/
def treePlaysCard : Claim7 := { stood := { row := treePlaysRow, standIns := [], harness := (true, "6490ce3a5ebcc1aa7bf073f08d324c9493108ae2f6f4b04f8b277606bd2a1299"), looks := false }, kinds := [], alts := [], laidByText := true, laidKinds := [.data, .pinned], laidTests := true, laidLooks := .later }
def TreePlaysCardSaid : Prop := Claim7.holds Tryz.pinned (.plain (OpenSpec.ofChange treePlaysSpec)) treePlaysCard

/-- THE TIED CARD OF 'swinglelaw18.DirfsBack'. -/
def dirfsBackCard : Claim7 := { stood := { row := dirfsBackRow, standIns := [], harness := (true, "6490ce3a5ebcc1aa7bf073f08d324c9493108ae2f6f4b04f8b277606bd2a1299"), looks := false }, kinds := [], alts := [], laidByText := true, laidKinds := [.data, .pinned], laidTests := true, laidLooks := .later }
def DirfsBackCardSaid : Prop := Claim7.holds Tryz.pinned (.plain (OpenSpec.ofChange dirfsBackSpec)) dirfsBackCard

/-- THE TIED CARD OF 'swinglelaw18.DirfsPlays'. -/
def dirfsPlaysCard : Claim7 := { stood := { row := dirfsPlaysRow, standIns := [], harness := (true, "6490ce3a5ebcc1aa7bf073f08d324c9493108ae2f6f4b04f8b277606bd2a1299"), looks := false }, kinds := [], alts := [], laidByText := true, laidKinds := [.data, .pinned], laidTests := true, laidLooks := .later }
def DirfsPlaysCardSaid : Prop := Claim7.holds Tryz.pinned (.plain (OpenSpec.ofChange dirfsPlaysSpec)) dirfsPlaysCard

/-- THE TIED CARD OF 'swinglelaw18.DirfsWhole'. -/
def dirfsWholeCard : Claim7 := { stood := { row := dirfsWholeRow, standIns := [], harness := (true, "6490ce3a5ebcc1aa7bf073f08d324c9493108ae2f6f4b04f8b277606bd2a1299"), looks := false }, kinds := [], alts := [], laidByText := true, laidKinds := [.data, .pinned], laidTests := true, laidLooks := .later }
def DirfsWholeCardSaid : Prop := Claim7.holds Tryz.pinned (.plain (OpenSpec.ofChange dirfsWholeSpec)) dirfsWholeCard

/-- THE SECOND FORM's CARD OF 'swinglelaw16.TreePlays'. -/
def treePlaysUptoCard : Claim7 := { stood := { row := treePlaysUptoRow, standIns := [], harness := (true, "6490ce3a5ebcc1aa7bf073f08d324c9493108ae2f6f4b04f8b277606bd2a1299"), looks := false }, kinds := [], alts := [], laidByText := true, laidKinds := [.data, .pinned], laidTests := true, laidLooks := .later }
def TreePlaysUptoCardSaid : Prop := Claim7.holds Tryz.pinned (.plain (OpenSpec.upto treePlaysSpec)) treePlaysUptoCard

/-- THE SECOND FORM's CARD OF 'swinglelaw18.DirfsBack'. -/
def dirfsBackUptoCard : Claim7 := { stood := { row := dirfsBackUptoRow, standIns := [], harness := (true, "6490ce3a5ebcc1aa7bf073f08d324c9493108ae2f6f4b04f8b277606bd2a1299"), looks := false }, kinds := [], alts := [], laidByText := true, laidKinds := [.data, .pinned], laidTests := true, laidLooks := .later }
def DirfsBackUptoCardSaid : Prop := Claim7.holds Tryz.pinned (.plain (OpenSpec.upto dirfsBackSpec)) dirfsBackUptoCard

/-- THE SECOND FORM's CARD OF 'swinglelaw18.DirfsPlays'. -/
def dirfsPlaysUptoCard : Claim7 := { stood := { row := dirfsPlaysUptoRow, standIns := [], harness := (true, "6490ce3a5ebcc1aa7bf073f08d324c9493108ae2f6f4b04f8b277606bd2a1299"), looks := false }, kinds := [], alts := [], laidByText := true, laidKinds := [.data, .pinned], laidTests := true, laidLooks := .later }
def DirfsPlaysUptoCardSaid : Prop := Claim7.holds Tryz.pinned (.plain (OpenSpec.upto dirfsPlaysSpec)) dirfsPlaysUptoCard

/-- THE SECOND FORM's CARD OF 'swinglelaw18.DirfsWhole'. -/
def dirfsWholeUptoCard : Claim7 := { stood := { row := dirfsWholeUptoRow, standIns := [], harness := (true, "6490ce3a5ebcc1aa7bf073f08d324c9493108ae2f6f4b04f8b277606bd2a1299"), looks := false }, kinds := [], alts := [], laidByText := true, laidKinds := [.data, .pinned], laidTests := true, laidLooks := .later }
def DirfsWholeUptoCardSaid : Prop := Claim7.holds Tryz.pinned (.plain (OpenSpec.upto dirfsWholeSpec)) dirfsWholeUptoCard
end Rows
end Go.Proofs.YtcpmhjealiajpaaGreatDoor
