/-
  NARROWER THAN 'FOR EVERY INPUT', by the rows' own cells (each row's printed sentence says how): DetectFinds: laid · DetectNone: laid · ReconAll: laid · ReconTurns: laid.
  DERIVED. THE GIVEN ROWS OF THIS SEAT. 4 by the template 'for every input the law returns true; each argument reads behind the call as it read before'; 0 by the template 'total and deterministic' (their statements: YteofiffbobbdmaaGreatDoorTotals.lean).
  GIVEN WITH THE SEED: the statements are not yours to turn. If you find one false, say at which input.
  Laid BY PROGRAM, IN A SANDBOX (cutbox-rows.mjs): the forced cells as the released guide's own fill.sh prints them over the translation d58bf3c243b34822… (all of the seat's roots in one cut). By AI agents, Wed Nov 11 2026. No macro, syntax, notation, axiom, sorry.
-/
import Derived.Test.YteofiffbobbdmaaGreatDoorChecked
import GoSem.PinnedTables
import GoSem.Claim
import GoSem.ClaimJoined
import GoSem.ClaimMapViews
import Derived.JoinedTies
import Derived.KernelRfl
namespace Go.Proofs.YteofiffbobbdmaaGreatDoor
/- THE CELL 'sum', in the pinned program and in every row, IS THE sha256 OF THE DUMP (.gsa) THAT YteofiffbobbdmaaGreatDoorProg.lean LOADS. Nothing in Lean hashes anything: it is a label: what it is worth is what the hold of that sum in a sandbox is worth. -/
noncomputable def Tryz.pinned : Pinned := { name := "yteofiffbobbdmaagreatdoor", sum := "d58bf3c243b348221549c68a4f66da3786dd101d73550cf96ab89d49a2db09dc", checked := Tryz.checked }
namespace Rows
def none {H : Type} : Left H := { results := [], args := [] }

/- WHAT THE LISTED PACKAGE-LEVEL VARIABLES READ AS WHEN THE CALL BEGINS. Each datum BY PROGRAM (the guide's laid-datum.mjs) off the statement by which the dump's own 'gosem.cut.vars' lays the variable. In a bare row this is a premise. The card (YteofiffbobbdmaaGreatDoorCards.lean) ties it to the program's text. -/
def laid_unicode_utf8_acceptRanges {H : Type} : DataW H := .agg [.agg [.lit (.int .u8 128), .lit (.int .u8 191)], .agg [.lit (.int .u8 160), .lit (.int .u8 191)], .agg [.lit (.int .u8 128), .lit (.int .u8 159)], .agg [.lit (.int .u8 144), .lit (.int .u8 191)], .agg [.lit (.int .u8 128), .lit (.int .u8 143)], .agg [.lit (.int .u8 0), .lit (.int .u8 0)], .agg [.lit (.int .u8 0), .lit (.int .u8 0)], .agg [.lit (.int .u8 0), .lit (.int .u8 0)], .agg [.lit (.int .u8 0), .lit (.int .u8 0)], .agg [.lit (.int .u8 0), .lit (.int .u8 0)], .agg [.lit (.int .u8 0), .lit (.int .u8 0)], .agg [.lit (.int .u8 0), .lit (.int .u8 0)], .agg [.lit (.int .u8 0), .lit (.int .u8 0)], .agg [.lit (.int .u8 0), .lit (.int .u8 0)], .agg [.lit (.int .u8 0), .lit (.int .u8 0)], .agg [.lit (.int .u8 0), .lit (.int .u8 0)]]
/-- One of Go's own tables, pinned by name: the form's constant. -/
def laid_unicode_utf8_first : DataW Unit := Go.Pinned.utf8First

/-- 'swinglelaw29.DetectFinds': WHATEVER THE INPUT: true; the input reads as it did. -/
def detectFindsSpec : ChangeSpec := { name := "detectFinds", fn := fun _ => fun
  | [d1, d2, d3] => { results := [.lit (.bool true)], args := [d1, d2, d3] }
  | _ => none }
def detectFindsRow : OpenClaim := { program := "yteofiffbobbdmaagreatdoor", sum := "d58bf3c243b348221549c68a4f66da3786dd101d73550cf96ab89d49a2db09dc", func := "swingle/swinglelaw29.DetectFinds", spec := "detectFinds", inPlace := ["internal/bytealg.IndexByteString", "internal/bytealg.IndexString", "internal/bytealg.CountString", "internal/bytealg.abigen_runtime_cmpstring", "slices.overlaps[swingle/sorted.entry[string, swingle/api.Node]]", "slices.overlaps[swingle/sorted.entry[string, bool]]"], unfollowed := true, recurses := true, named := ["internal/bytealg.MaxLen", "unicode/utf8.first", "unicode/utf8.acceptRanges"], apart := false, laid := [("unicode/utf8.acceptRanges", laid_unicode_utf8_acceptRanges), ("unicode/utf8.first", laid_unicode_utf8_first)] }
def DetectFindsSaid : Prop := detectFindsRow.holds Tryz.pinned (OpenSpec.ofChange detectFindsSpec)

/-- ITS FALSE NEIGHBOUR: 'it returns false'. Refute it at one input. -/
def detectFindsWrong : ChangeSpec := { name := "detectFinds", fn := fun _ => fun
  | [d1, d2, d3] => { results := [.lit (.bool false)], args := [d1, d2, d3] }
  | _ => none }
def DetectFindsWrongFalsely : Prop := detectFindsRow.holds Tryz.pinned (OpenSpec.ofChange detectFindsWrong)

/-- 'swinglelaw29.DetectNone': WHATEVER THE INPUT: true; the input reads as it did. -/
def detectNoneSpec : ChangeSpec := { name := "detectNone", fn := fun _ => fun
  | [d1, d2] => { results := [.lit (.bool true)], args := [d1, d2] }
  | _ => none }
def detectNoneRow : OpenClaim := { program := "yteofiffbobbdmaagreatdoor", sum := "d58bf3c243b348221549c68a4f66da3786dd101d73550cf96ab89d49a2db09dc", func := "swingle/swinglelaw29.DetectNone", spec := "detectNone", inPlace := ["internal/bytealg.IndexByteString", "internal/bytealg.IndexString", "internal/bytealg.CountString", "internal/bytealg.abigen_runtime_cmpstring", "slices.overlaps[swingle/sorted.entry[string, swingle/api.Node]]", "slices.overlaps[swingle/sorted.entry[string, swingle/api.Print]]", "slices.overlaps[swingle/sorted.entry[string, bool]]"], unfollowed := true, recurses := true, named := ["internal/bytealg.MaxLen", "unicode/utf8.first", "unicode/utf8.acceptRanges"], apart := false, laid := [("unicode/utf8.acceptRanges", laid_unicode_utf8_acceptRanges), ("unicode/utf8.first", laid_unicode_utf8_first)] }
def DetectNoneSaid : Prop := detectNoneRow.holds Tryz.pinned (OpenSpec.ofChange detectNoneSpec)

/-- ITS FALSE NEIGHBOUR: 'it returns false'. Refute it at one input. -/
def detectNoneWrong : ChangeSpec := { name := "detectNone", fn := fun _ => fun
  | [d1, d2] => { results := [.lit (.bool false)], args := [d1, d2] }
  | _ => none }
def DetectNoneWrongFalsely : Prop := detectNoneRow.holds Tryz.pinned (OpenSpec.ofChange detectNoneWrong)

/-- 'swinglelaw30.ReconAll': WHATEVER THE INPUT: true; the input reads as it did. -/
def reconAllSpec : ChangeSpec := { name := "reconAll", fn := fun _ => fun
  | [d1, d2, d3] => { results := [.lit (.bool true)], args := [d1, d2, d3] }
  | _ => none }
def reconAllRow : OpenClaim := { program := "yteofiffbobbdmaagreatdoor", sum := "d58bf3c243b348221549c68a4f66da3786dd101d73550cf96ab89d49a2db09dc", func := "swingle/swinglelaw30.ReconAll", spec := "reconAll", inPlace := ["internal/bytealg.IndexByteString", "internal/bytealg.IndexString", "internal/bytealg.CountString", "internal/bytealg.abigen_runtime_cmpstring", "slices.overlaps[swingle/sorted.entry[string, swingle/api.Node]]", "slices.overlaps[swingle/sorted.entry[string, bool]]"], unfollowed := true, recurses := true, named := ["internal/bytealg.MaxLen", "unicode/utf8.first", "unicode/utf8.acceptRanges"], apart := false, laid := [("unicode/utf8.acceptRanges", laid_unicode_utf8_acceptRanges), ("unicode/utf8.first", laid_unicode_utf8_first)] }
def ReconAllSaid : Prop := reconAllRow.holds Tryz.pinned (OpenSpec.ofChange reconAllSpec)

/-- ITS FALSE NEIGHBOUR: 'it returns false'. Refute it at one input. -/
def reconAllWrong : ChangeSpec := { name := "reconAll", fn := fun _ => fun
  | [d1, d2, d3] => { results := [.lit (.bool false)], args := [d1, d2, d3] }
  | _ => none }
def ReconAllWrongFalsely : Prop := reconAllRow.holds Tryz.pinned (OpenSpec.ofChange reconAllWrong)

/-- 'swinglelaw30.ReconTurns': WHATEVER THE INPUT: true; the input reads as it did. -/
def reconTurnsSpec : ChangeSpec := { name := "reconTurns", fn := fun _ => fun
  | [d1, d2] => { results := [.lit (.bool true)], args := [d1, d2] }
  | _ => none }
def reconTurnsRow : OpenClaim := { program := "yteofiffbobbdmaagreatdoor", sum := "d58bf3c243b348221549c68a4f66da3786dd101d73550cf96ab89d49a2db09dc", func := "swingle/swinglelaw30.ReconTurns", spec := "reconTurns", inPlace := ["internal/bytealg.IndexByteString", "internal/bytealg.IndexString", "internal/bytealg.CountString", "internal/bytealg.abigen_runtime_cmpstring", "slices.overlaps[swingle/sorted.entry[string, swingle/api.Node]]", "slices.overlaps[swingle/sorted.entry[string, bool]]"], unfollowed := true, recurses := true, named := ["internal/bytealg.MaxLen", "unicode/utf8.first", "unicode/utf8.acceptRanges"], apart := false, laid := [("unicode/utf8.acceptRanges", laid_unicode_utf8_acceptRanges), ("unicode/utf8.first", laid_unicode_utf8_first)] }
def ReconTurnsSaid : Prop := reconTurnsRow.holds Tryz.pinned (OpenSpec.ofChange reconTurnsSpec)

/-- ITS FALSE NEIGHBOUR: 'it returns false'. Refute it at one input. -/
def reconTurnsWrong : ChangeSpec := { name := "reconTurns", fn := fun _ => fun
  | [d1, d2] => { results := [.lit (.bool false)], args := [d1, d2] }
  | _ => none }
def ReconTurnsWrongFalsely : Prop := reconTurnsRow.holds Tryz.pinned (OpenSpec.ofChange reconTurnsWrong)

/- THE SECOND FORM. 'bulk': how many values and letters a reading holds, each counted each time it is reached (what is shared counts as often as it is met; a slice's spare places count too). A statement '..UptoSaid' is the law's where the arguments, and the package variables that the reading takes, are together of bulk at most 1048576: NARROWER than '..Said'. Prove '..Said' where nothing that the law and all that it calls make is longer than what came in: it says more and counts as full. Else prove '..UptoSaid'. A law counts once. -/
mutual
def uptoBulk {H : Type} : DataW H → Nat
  | .lit (.string bytes) => bytes.length + 1
  | .lit _ => 1
  | .nil => 1
  | .ptr d => uptoBulk d + 1
  | .slice elems spare => uptoBulkAll elems + uptoBulkAll spare + 1
  | .agg parts => uptoBulkAll parts + 1
  | .iface _ d => uptoBulk d + 1
  | .map entries => uptoBulkEntries entries + 1
  | .held _ => 1
def uptoBulkAll {H : Type} : List (DataW H) → Nat
  | [] => 0
  | d :: r => uptoBulk d + uptoBulkAll r
def uptoBulkEntries {H : Type} : List (Lit × DataW H) → Nat
  | [] => 0
  | x :: r => uptoBulkEntry x + uptoBulkEntries r
def uptoBulkEntry {H : Type} : Lit × DataW H → Nat
  | (.string bytes, d) => bytes.length + uptoBulk d + 1
  | (_, d) => uptoBulk d + 1
 end
def uptoSmall : (H : Type) → List (DataW H) → Bool := fun _ ds => decide (uptoBulkAll ds ≤ 1048576)
def OpenSpec.upto (s : _root_.Go.ChangeSpec) : _root_.Go.OpenSpec := { _root_.Go.OpenSpec.ofChange s with cond := some uptoSmall }

/-- 'swinglelaw29.DetectFinds', WHERE WHAT IT READS IS OF BULK AT MOST 1048576: true; the input reads as it did. -/
def detectFindsUptoRow : OpenClaim := { program := "yteofiffbobbdmaagreatdoor", sum := "d58bf3c243b348221549c68a4f66da3786dd101d73550cf96ab89d49a2db09dc", func := "swingle/swinglelaw29.DetectFinds", spec := "detectFinds", inPlace := ["internal/bytealg.IndexByteString", "internal/bytealg.IndexString", "internal/bytealg.CountString", "internal/bytealg.abigen_runtime_cmpstring", "slices.overlaps[swingle/sorted.entry[string, swingle/api.Node]]", "slices.overlaps[swingle/sorted.entry[string, bool]]"], unfollowed := true, recurses := true, named := ["internal/bytealg.MaxLen", "unicode/utf8.first", "unicode/utf8.acceptRanges"], apart := false, laid := [("unicode/utf8.acceptRanges", laid_unicode_utf8_acceptRanges), ("unicode/utf8.first", laid_unicode_utf8_first)], narrowed := true }
def DetectFindsUptoSaid : Prop := detectFindsUptoRow.holds Tryz.pinned (OpenSpec.upto detectFindsSpec)

/-- 'swinglelaw29.DetectNone', WHERE WHAT IT READS IS OF BULK AT MOST 1048576: true; the input reads as it did. -/
def detectNoneUptoRow : OpenClaim := { program := "yteofiffbobbdmaagreatdoor", sum := "d58bf3c243b348221549c68a4f66da3786dd101d73550cf96ab89d49a2db09dc", func := "swingle/swinglelaw29.DetectNone", spec := "detectNone", inPlace := ["internal/bytealg.IndexByteString", "internal/bytealg.IndexString", "internal/bytealg.CountString", "internal/bytealg.abigen_runtime_cmpstring", "slices.overlaps[swingle/sorted.entry[string, swingle/api.Node]]", "slices.overlaps[swingle/sorted.entry[string, swingle/api.Print]]", "slices.overlaps[swingle/sorted.entry[string, bool]]"], unfollowed := true, recurses := true, named := ["internal/bytealg.MaxLen", "unicode/utf8.first", "unicode/utf8.acceptRanges"], apart := false, laid := [("unicode/utf8.acceptRanges", laid_unicode_utf8_acceptRanges), ("unicode/utf8.first", laid_unicode_utf8_first)], narrowed := true }
def DetectNoneUptoSaid : Prop := detectNoneUptoRow.holds Tryz.pinned (OpenSpec.upto detectNoneSpec)

/-- 'swinglelaw30.ReconAll', WHERE WHAT IT READS IS OF BULK AT MOST 1048576: true; the input reads as it did. -/
def reconAllUptoRow : OpenClaim := { program := "yteofiffbobbdmaagreatdoor", sum := "d58bf3c243b348221549c68a4f66da3786dd101d73550cf96ab89d49a2db09dc", func := "swingle/swinglelaw30.ReconAll", spec := "reconAll", inPlace := ["internal/bytealg.IndexByteString", "internal/bytealg.IndexString", "internal/bytealg.CountString", "internal/bytealg.abigen_runtime_cmpstring", "slices.overlaps[swingle/sorted.entry[string, swingle/api.Node]]", "slices.overlaps[swingle/sorted.entry[string, bool]]"], unfollowed := true, recurses := true, named := ["internal/bytealg.MaxLen", "unicode/utf8.first", "unicode/utf8.acceptRanges"], apart := false, laid := [("unicode/utf8.acceptRanges", laid_unicode_utf8_acceptRanges), ("unicode/utf8.first", laid_unicode_utf8_first)], narrowed := true }
def ReconAllUptoSaid : Prop := reconAllUptoRow.holds Tryz.pinned (OpenSpec.upto reconAllSpec)

/-- 'swinglelaw30.ReconTurns', WHERE WHAT IT READS IS OF BULK AT MOST 1048576: true; the input reads as it did. -/
def reconTurnsUptoRow : OpenClaim := { program := "yteofiffbobbdmaagreatdoor", sum := "d58bf3c243b348221549c68a4f66da3786dd101d73550cf96ab89d49a2db09dc", func := "swingle/swinglelaw30.ReconTurns", spec := "reconTurns", inPlace := ["internal/bytealg.IndexByteString", "internal/bytealg.IndexString", "internal/bytealg.CountString", "internal/bytealg.abigen_runtime_cmpstring", "slices.overlaps[swingle/sorted.entry[string, swingle/api.Node]]", "slices.overlaps[swingle/sorted.entry[string, bool]]"], unfollowed := true, recurses := true, named := ["internal/bytealg.MaxLen", "unicode/utf8.first", "unicode/utf8.acceptRanges"], apart := false, laid := [("unicode/utf8.acceptRanges", laid_unicode_utf8_acceptRanges), ("unicode/utf8.first", laid_unicode_utf8_first)], narrowed := true }
def ReconTurnsUptoSaid : Prop := reconTurnsUptoRow.holds Tryz.pinned (OpenSpec.upto reconTurnsSpec)

end Rows
end Go.Proofs.YteofiffbobbdmaaGreatDoor
