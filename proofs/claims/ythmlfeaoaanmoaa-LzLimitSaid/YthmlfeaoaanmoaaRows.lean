/-
  No cell of these rows narrows 'for every input' (looked for: loops, veiled, ifaces, maps, wideKeys, modest, calm, conditions, laid).
  DERIVED. THE GIVEN ROWS OF THIS SEAT. 12 by the template 'for every input the law returns true; each argument reads behind the call as it read before'; 0 by the template 'total and deterministic' (their statements: YthmlfeaoaanmoaaTotals.lean).
  GIVEN WITH THE SEED: the statements are not yours to turn. If you find one false, say at which input.
  Laid BY PROGRAM, IN A SANDBOX (cutbox-rows.mjs): the forced cells as the released guide's own fill.sh prints them over the translation b9e13920f06d9a17… (all of the seat's roots in one cut). By AI agents, Wed Nov 11 2026. No macro, syntax, notation, axiom, sorry.
-/
import Derived.Test.YthmlfeaoaanmoaaChecked
import GoSem.Claim
import GoSem.ClaimJoined
import GoSem.ClaimMapViews
import Derived.JoinedTies
import Derived.KernelRfl
namespace Go.Proofs.Ythmlfeaoaanmoaa
/- THE CELL 'sum', in the pinned program and in every row, IS THE sha256 OF THE DUMP (.gsa) THAT YthmlfeaoaanmoaaProg.lean LOADS. Nothing in Lean hashes anything: it is a label: what it is worth is what the hold of that sum in a sandbox is worth. -/
noncomputable def Try.pinned : Pinned := { name := "ythmlfeaoaanmoaa", sum := "b9e13920f06d9a175f86ac80360c32b0a853541fdbb89f918350922ee2fc06d2", checked := Try.checked }
namespace Rows
def none {H : Type} : Left H := { results := [], args := [] }

/-- 'swinglelaw12.DosParts': WHATEVER THE INPUT: true; the input reads as it did. -/
def dosPartsSpec : ChangeSpec := { name := "dosParts", fn := fun _ => fun
  | [d1, d2, d3] => { results := [.lit (.bool true)], args := [d1, d2, d3] }
  | _ => none }
def dosPartsRow : OpenClaim := { program := "ythmlfeaoaanmoaa", sum := "b9e13920f06d9a175f86ac80360c32b0a853541fdbb89f918350922ee2fc06d2", func := "swingle/swinglelaw12.DosParts", spec := "dosParts", unfollowed := true, recurses := true, plainKeys := false, apart := false }
def DosPartsSaid : Prop := dosPartsRow.holds Try.pinned (OpenSpec.ofChange dosPartsSpec)

/-- ITS FALSE NEIGHBOUR: 'it returns false'. Refute it at one input. -/
def dosPartsWrong : ChangeSpec := { name := "dosParts", fn := fun _ => fun
  | [d1, d2, d3] => { results := [.lit (.bool false)], args := [d1, d2, d3] }
  | _ => none }
def DosPartsWrongFalsely : Prop := dosPartsRow.holds Try.pinned (OpenSpec.ofChange dosPartsWrong)

/-- 'swinglelaw12.DosTexts': WHATEVER THE INPUT: true; the input reads as it did. -/
def dosTextsSpec : ChangeSpec := { name := "dosTexts", fn := fun _ => fun
  | [d1, d2] => { results := [.lit (.bool true)], args := [d1, d2] }
  | _ => none }
def dosTextsRow : OpenClaim := { program := "ythmlfeaoaanmoaa", sum := "b9e13920f06d9a175f86ac80360c32b0a853541fdbb89f918350922ee2fc06d2", func := "swingle/swinglelaw12.DosTexts", spec := "dosTexts", unfollowed := true, recurses := true, plainKeys := false, apart := false }
def DosTextsSaid : Prop := dosTextsRow.holds Try.pinned (OpenSpec.ofChange dosTextsSpec)

/-- ITS FALSE NEIGHBOUR: 'it returns false'. Refute it at one input. -/
def dosTextsWrong : ChangeSpec := { name := "dosTexts", fn := fun _ => fun
  | [d1, d2] => { results := [.lit (.bool false)], args := [d1, d2] }
  | _ => none }
def DosTextsWrongFalsely : Prop := dosTextsRow.holds Try.pinned (OpenSpec.ofChange dosTextsWrong)

/-- 'swinglelaw12.DosSeconds': WHATEVER THE INPUT: true; the input reads as it did. -/
def dosSecondsSpec : ChangeSpec := { name := "dosSeconds", fn := fun _ => fun
  | [d1, d2] => { results := [.lit (.bool true)], args := [d1, d2] }
  | _ => none }
def dosSecondsRow : OpenClaim := { program := "ythmlfeaoaanmoaa", sum := "b9e13920f06d9a175f86ac80360c32b0a853541fdbb89f918350922ee2fc06d2", func := "swingle/swinglelaw12.DosSeconds", spec := "dosSeconds", unfollowed := true, recurses := true, plainKeys := false, apart := false }
def DosSecondsSaid : Prop := dosSecondsRow.holds Try.pinned (OpenSpec.ofChange dosSecondsSpec)

/-- ITS FALSE NEIGHBOUR: 'it returns false'. Refute it at one input. -/
def dosSecondsWrong : ChangeSpec := { name := "dosSeconds", fn := fun _ => fun
  | [d1, d2] => { results := [.lit (.bool false)], args := [d1, d2] }
  | _ => none }
def DosSecondsWrongFalsely : Prop := dosSecondsRow.holds Try.pinned (OpenSpec.ofChange dosSecondsWrong)

/-- 'swinglelaw12.DosOrders': WHATEVER THE INPUT: true; the input reads as it did. -/
def dosOrdersSpec : ChangeSpec := { name := "dosOrders", fn := fun _ => fun
  | [d1, d2] => { results := [.lit (.bool true)], args := [d1, d2] }
  | _ => none }
def dosOrdersRow : OpenClaim := { program := "ythmlfeaoaanmoaa", sum := "b9e13920f06d9a175f86ac80360c32b0a853541fdbb89f918350922ee2fc06d2", func := "swingle/swinglelaw12.DosOrders", spec := "dosOrders", unfollowed := true, recurses := true, plainKeys := false, apart := false }
def DosOrdersSaid : Prop := dosOrdersRow.holds Try.pinned (OpenSpec.ofChange dosOrdersSpec)

/-- ITS FALSE NEIGHBOUR: 'it returns false'. Refute it at one input. -/
def dosOrdersWrong : ChangeSpec := { name := "dosOrders", fn := fun _ => fun
  | [d1, d2] => { results := [.lit (.bool false)], args := [d1, d2] }
  | _ => none }
def DosOrdersWrongFalsely : Prop := dosOrdersRow.holds Try.pinned (OpenSpec.ofChange dosOrdersWrong)

/-- 'swinglelaw09.RunsOf': WHATEVER THE INPUT: true; the input reads as it did. -/
def runsOfSpec : ChangeSpec := { name := "runsOf", fn := fun _ => fun
  | [d1, d2] => { results := [.lit (.bool true)], args := [d1, d2] }
  | _ => none }
def runsOfRow : OpenClaim := { program := "ythmlfeaoaanmoaa", sum := "b9e13920f06d9a175f86ac80360c32b0a853541fdbb89f918350922ee2fc06d2", func := "swingle/swinglelaw09.RunsOf", spec := "runsOf", unfollowed := true, recurses := true, plainKeys := false, apart := false }
def RunsOfSaid : Prop := runsOfRow.holds Try.pinned (OpenSpec.ofChange runsOfSpec)

/-- ITS FALSE NEIGHBOUR: 'it returns false'. Refute it at one input. -/
def runsOfWrong : ChangeSpec := { name := "runsOf", fn := fun _ => fun
  | [d1, d2] => { results := [.lit (.bool false)], args := [d1, d2] }
  | _ => none }
def RunsOfWrongFalsely : Prop := runsOfRow.holds Try.pinned (OpenSpec.ofChange runsOfWrong)

/-- 'swinglelaw09.RunsReads': WHATEVER THE INPUT: true; the input reads as it did. -/
def runsReadsSpec : ChangeSpec := { name := "runsReads", fn := fun _ => fun
  | [d] => { results := [.lit (.bool true)], args := [d] }
  | _ => none }
def runsReadsRow : OpenClaim := { program := "ythmlfeaoaanmoaa", sum := "b9e13920f06d9a175f86ac80360c32b0a853541fdbb89f918350922ee2fc06d2", func := "swingle/swinglelaw09.RunsReads", spec := "runsReads", unfollowed := true, recurses := true, plainKeys := false, apart := false }
def RunsReadsSaid : Prop := runsReadsRow.holds Try.pinned (OpenSpec.ofChange runsReadsSpec)

/-- ITS FALSE NEIGHBOUR: 'it returns false'. Refute it at one input. -/
def runsReadsWrong : ChangeSpec := { name := "runsReads", fn := fun _ => fun
  | [d] => { results := [.lit (.bool false)], args := [d] }
  | _ => none }
def RunsReadsWrongFalsely : Prop := runsReadsRow.holds Try.pinned (OpenSpec.ofChange runsReadsWrong)

/-- 'swinglelaw09.RunsBack': WHATEVER THE INPUT: true; the input reads as it did. -/
def runsBackSpec : ChangeSpec := { name := "runsBack", fn := fun _ => fun
  | [d] => { results := [.lit (.bool true)], args := [d] }
  | _ => none }
def runsBackRow : OpenClaim := { program := "ythmlfeaoaanmoaa", sum := "b9e13920f06d9a175f86ac80360c32b0a853541fdbb89f918350922ee2fc06d2", func := "swingle/swinglelaw09.RunsBack", spec := "runsBack", unfollowed := true, recurses := true, plainKeys := false, apart := false }
def RunsBackSaid : Prop := runsBackRow.holds Try.pinned (OpenSpec.ofChange runsBackSpec)

/-- ITS FALSE NEIGHBOUR: 'it returns false'. Refute it at one input. -/
def runsBackWrong : ChangeSpec := { name := "runsBack", fn := fun _ => fun
  | [d] => { results := [.lit (.bool false)], args := [d] }
  | _ => none }
def RunsBackWrongFalsely : Prop := runsBackRow.holds Try.pinned (OpenSpec.ofChange runsBackWrong)

/-- 'swinglelaw07.LzLongs': WHATEVER THE INPUT: true; the input reads as it did. -/
def lzLongsSpec : ChangeSpec := { name := "lzLongs", fn := fun _ => fun
  | [d1, d2, d3] => { results := [.lit (.bool true)], args := [d1, d2, d3] }
  | _ => none }
def lzLongsRow : OpenClaim := { program := "ythmlfeaoaanmoaa", sum := "b9e13920f06d9a175f86ac80360c32b0a853541fdbb89f918350922ee2fc06d2", func := "swingle/swinglelaw07.LzLongs", spec := "lzLongs", unfollowed := true, recurses := true, plainKeys := false, apart := false }
def LzLongsSaid : Prop := lzLongsRow.holds Try.pinned (OpenSpec.ofChange lzLongsSpec)

/-- ITS FALSE NEIGHBOUR: 'it returns false'. Refute it at one input. -/
def lzLongsWrong : ChangeSpec := { name := "lzLongs", fn := fun _ => fun
  | [d1, d2, d3] => { results := [.lit (.bool false)], args := [d1, d2, d3] }
  | _ => none }
def LzLongsWrongFalsely : Prop := lzLongsRow.holds Try.pinned (OpenSpec.ofChange lzLongsWrong)

/-- 'swinglelaw07.LzBack': WHATEVER THE INPUT: true; the input reads as it did. -/
def lzBackSpec : ChangeSpec := { name := "lzBack", fn := fun _ => fun
  | [d1, d2, d3] => { results := [.lit (.bool true)], args := [d1, d2, d3] }
  | _ => none }
def lzBackRow : OpenClaim := { program := "ythmlfeaoaanmoaa", sum := "b9e13920f06d9a175f86ac80360c32b0a853541fdbb89f918350922ee2fc06d2", func := "swingle/swinglelaw07.LzBack", spec := "lzBack", unfollowed := true, recurses := true, plainKeys := false, apart := false }
def LzBackSaid : Prop := lzBackRow.holds Try.pinned (OpenSpec.ofChange lzBackSpec)

/-- ITS FALSE NEIGHBOUR: 'it returns false'. Refute it at one input. -/
def lzBackWrong : ChangeSpec := { name := "lzBack", fn := fun _ => fun
  | [d1, d2, d3] => { results := [.lit (.bool false)], args := [d1, d2, d3] }
  | _ => none }
def LzBackWrongFalsely : Prop := lzBackRow.holds Try.pinned (OpenSpec.ofChange lzBackWrong)

/-- 'swinglelaw07.LzLimit': WHATEVER THE INPUT: true; the input reads as it did. -/
def lzLimitSpec : ChangeSpec := { name := "lzLimit", fn := fun _ => fun
  | [d1, d2] => { results := [.lit (.bool true)], args := [d1, d2] }
  | _ => none }
def lzLimitRow : OpenClaim := { program := "ythmlfeaoaanmoaa", sum := "b9e13920f06d9a175f86ac80360c32b0a853541fdbb89f918350922ee2fc06d2", func := "swingle/swinglelaw07.LzLimit", spec := "lzLimit", unfollowed := true, recurses := true, plainKeys := false, apart := false }
def LzLimitSaid : Prop := lzLimitRow.holds Try.pinned (OpenSpec.ofChange lzLimitSpec)

/-- ITS FALSE NEIGHBOUR: 'it returns false'. Refute it at one input. -/
def lzLimitWrong : ChangeSpec := { name := "lzLimit", fn := fun _ => fun
  | [d1, d2] => { results := [.lit (.bool false)], args := [d1, d2] }
  | _ => none }
def LzLimitWrongFalsely : Prop := lzLimitRow.holds Try.pinned (OpenSpec.ofChange lzLimitWrong)

/-- 'swinglelaw07.LzExpands': WHATEVER THE INPUT: true; the input reads as it did. -/
def lzExpandsSpec : ChangeSpec := { name := "lzExpands", fn := fun _ => fun
  | [d] => { results := [.lit (.bool true)], args := [d] }
  | _ => none }
def lzExpandsRow : OpenClaim := { program := "ythmlfeaoaanmoaa", sum := "b9e13920f06d9a175f86ac80360c32b0a853541fdbb89f918350922ee2fc06d2", func := "swingle/swinglelaw07.LzExpands", spec := "lzExpands", unfollowed := true, recurses := true, plainKeys := false, apart := false }
def LzExpandsSaid : Prop := lzExpandsRow.holds Try.pinned (OpenSpec.ofChange lzExpandsSpec)

/-- ITS FALSE NEIGHBOUR: 'it returns false'. Refute it at one input. -/
def lzExpandsWrong : ChangeSpec := { name := "lzExpands", fn := fun _ => fun
  | [d] => { results := [.lit (.bool false)], args := [d] }
  | _ => none }
def LzExpandsWrongFalsely : Prop := lzExpandsRow.holds Try.pinned (OpenSpec.ofChange lzExpandsWrong)

/-- 'swinglelaw21.EndingReads': WHATEVER THE INPUT: true; the input reads as it did. -/
def endingReadsSpec : ChangeSpec := { name := "endingReads", fn := fun _ => fun
  | [d1, d2] => { results := [.lit (.bool true)], args := [d1, d2] }
  | _ => none }
def endingReadsRow : OpenClaim := { program := "ythmlfeaoaanmoaa", sum := "b9e13920f06d9a175f86ac80360c32b0a853541fdbb89f918350922ee2fc06d2", func := "swingle/swinglelaw21.EndingReads", spec := "endingReads", inPlace := ["internal/abi.NoEscape"], unfollowed := true, recurses := true, plainKeys := false, apart := false }
def EndingReadsSaid : Prop := endingReadsRow.holds Try.pinned (OpenSpec.ofChange endingReadsSpec)

/-- ITS FALSE NEIGHBOUR: 'it returns false'. Refute it at one input. -/
def endingReadsWrong : ChangeSpec := { name := "endingReads", fn := fun _ => fun
  | [d1, d2] => { results := [.lit (.bool false)], args := [d1, d2] }
  | _ => none }
def EndingReadsWrongFalsely : Prop := endingReadsRow.holds Try.pinned (OpenSpec.ofChange endingReadsWrong)

/- THE SECOND FORM. 'bulk': how many values and letters a reading holds, each counted each time it is reached (what is shared counts as often as it is met; a slice's spare places count too). A statement '..UptoSaid' is the law's where the arguments, and the package variables that the reading takes, are together of bulk at most 1048576: NARROWER than '..Said'. Prove '..Said' where nothing that the law and all that it calls make is longer than what came in: it says more and counts as full. Else prove '..UptoSaid'. A law counts once. -/
mutual
def uptoBulk {H : Type} : DataW H → Nat
  | .lit (.string bytes) => bytes.length + 1
  | .lit _ => 1
  | .nil => 1
  | .ptr d => uptoBulk d + 1
  | .slice elems spare => uptoBulkAll elems + uptoBulkAll spare + 1
  | .agg parts => uptoBulkAll parts + 1
  | .iface _ d => uptoBulk d + 1
  | .map entries => uptoBulkEntries entries + 1
  | .held _ => 1
def uptoBulkAll {H : Type} : List (DataW H) → Nat
  | [] => 0
  | d :: r => uptoBulk d + uptoBulkAll r
def uptoBulkEntries {H : Type} : List (Lit × DataW H) → Nat
  | [] => 0
  | x :: r => uptoBulkEntry x + uptoBulkEntries r
def uptoBulkEntry {H : Type} : Lit × DataW H → Nat
  | (.string bytes, d) => bytes.length + uptoBulk d + 1
  | (_, d) => uptoBulk d + 1
 end
def uptoSmall : (H : Type) → List (DataW H) → Bool := fun _ ds => decide (uptoBulkAll ds ≤ 1048576)
def OpenSpec.upto (s : _root_.Go.ChangeSpec) : _root_.Go.OpenSpec := { _root_.Go.OpenSpec.ofChange s with cond := some uptoSmall }

/-- 'swinglelaw12.DosParts', WHERE WHAT IT READS IS OF BULK AT MOST 1048576: true; the input reads as it did. -/
def dosPartsUptoRow : OpenClaim := { program := "ythmlfeaoaanmoaa", sum := "b9e13920f06d9a175f86ac80360c32b0a853541fdbb89f918350922ee2fc06d2", func := "swingle/swinglelaw12.DosParts", spec := "dosParts", unfollowed := true, recurses := true, plainKeys := false, apart := false, narrowed := true }
def DosPartsUptoSaid : Prop := dosPartsUptoRow.holds Try.pinned (OpenSpec.upto dosPartsSpec)

/-- 'swinglelaw12.DosTexts', WHERE WHAT IT READS IS OF BULK AT MOST 1048576: true; the input reads as it did. -/
def dosTextsUptoRow : OpenClaim := { program := "ythmlfeaoaanmoaa", sum := "b9e13920f06d9a175f86ac80360c32b0a853541fdbb89f918350922ee2fc06d2", func := "swingle/swinglelaw12.DosTexts", spec := "dosTexts", unfollowed := true, recurses := true, plainKeys := false, apart := false, narrowed := true }
def DosTextsUptoSaid : Prop := dosTextsUptoRow.holds Try.pinned (OpenSpec.upto dosTextsSpec)

/-- 'swinglelaw12.DosSeconds', WHERE WHAT IT READS IS OF BULK AT MOST 1048576: true; the input reads as it did. -/
def dosSecondsUptoRow : OpenClaim := { program := "ythmlfeaoaanmoaa", sum := "b9e13920f06d9a175f86ac80360c32b0a853541fdbb89f918350922ee2fc06d2", func := "swingle/swinglelaw12.DosSeconds", spec := "dosSeconds", unfollowed := true, recurses := true, plainKeys := false, apart := false, narrowed := true }
def DosSecondsUptoSaid : Prop := dosSecondsUptoRow.holds Try.pinned (OpenSpec.upto dosSecondsSpec)

/-- 'swinglelaw12.DosOrders', WHERE WHAT IT READS IS OF BULK AT MOST 1048576: true; the input reads as it did. -/
def dosOrdersUptoRow : OpenClaim := { program := "ythmlfeaoaanmoaa", sum := "b9e13920f06d9a175f86ac80360c32b0a853541fdbb89f918350922ee2fc06d2", func := "swingle/swinglelaw12.DosOrders", spec := "dosOrders", unfollowed := true, recurses := true, plainKeys := false, apart := false, narrowed := true }
def DosOrdersUptoSaid : Prop := dosOrdersUptoRow.holds Try.pinned (OpenSpec.upto dosOrdersSpec)

/-- 'swinglelaw09.RunsOf', WHERE WHAT IT READS IS OF BULK AT MOST 1048576: true; the input reads as it did. -/
def runsOfUptoRow : OpenClaim := { program := "ythmlfeaoaanmoaa", sum := "b9e13920f06d9a175f86ac80360c32b0a853541fdbb89f918350922ee2fc06d2", func := "swingle/swinglelaw09.RunsOf", spec := "runsOf", unfollowed := true, recurses := true, plainKeys := false, apart := false, narrowed := true }
def RunsOfUptoSaid : Prop := runsOfUptoRow.holds Try.pinned (OpenSpec.upto runsOfSpec)

/-- 'swinglelaw09.RunsReads', WHERE WHAT IT READS IS OF BULK AT MOST 1048576: true; the input reads as it did. -/
def runsReadsUptoRow : OpenClaim := { program := "ythmlfeaoaanmoaa", sum := "b9e13920f06d9a175f86ac80360c32b0a853541fdbb89f918350922ee2fc06d2", func := "swingle/swinglelaw09.RunsReads", spec := "runsReads", unfollowed := true, recurses := true, plainKeys := false, apart := false, narrowed := true }
def RunsReadsUptoSaid : Prop := runsReadsUptoRow.holds Try.pinned (OpenSpec.upto runsReadsSpec)

/-- 'swinglelaw09.RunsBack', WHERE WHAT IT READS IS OF BULK AT MOST 1048576: true; the input reads as it did. -/
def runsBackUptoRow : OpenClaim := { program := "ythmlfeaoaanmoaa", sum := "b9e13920f06d9a175f86ac80360c32b0a853541fdbb89f918350922ee2fc06d2", func := "swingle/swinglelaw09.RunsBack", spec := "runsBack", unfollowed := true, recurses := true, plainKeys := false, apart := false, narrowed := true }
def RunsBackUptoSaid : Prop := runsBackUptoRow.holds Try.pinned (OpenSpec.upto runsBackSpec)

/-- 'swinglelaw07.LzLongs', WHERE WHAT IT READS IS OF BULK AT MOST 1048576: true; the input reads as it did. -/
def lzLongsUptoRow : OpenClaim := { program := "ythmlfeaoaanmoaa", sum := "b9e13920f06d9a175f86ac80360c32b0a853541fdbb89f918350922ee2fc06d2", func := "swingle/swinglelaw07.LzLongs", spec := "lzLongs", unfollowed := true, recurses := true, plainKeys := false, apart := false, narrowed := true }
def LzLongsUptoSaid : Prop := lzLongsUptoRow.holds Try.pinned (OpenSpec.upto lzLongsSpec)

/-- 'swinglelaw07.LzBack', WHERE WHAT IT READS IS OF BULK AT MOST 1048576: true; the input reads as it did. -/
def lzBackUptoRow : OpenClaim := { program := "ythmlfeaoaanmoaa", sum := "b9e13920f06d9a175f86ac80360c32b0a853541fdbb89f918350922ee2fc06d2", func := "swingle/swinglelaw07.LzBack", spec := "lzBack", unfollowed := true, recurses := true, plainKeys := false, apart := false, narrowed := true }
def LzBackUptoSaid : Prop := lzBackUptoRow.holds Try.pinned (OpenSpec.upto lzBackSpec)

/-- 'swinglelaw07.LzLimit', WHERE WHAT IT READS IS OF BULK AT MOST 1048576: true; the input reads as it did. -/
def lzLimitUptoRow : OpenClaim := { program := "ythmlfeaoaanmoaa", sum := "b9e13920f06d9a175f86ac80360c32b0a853541fdbb89f918350922ee2fc06d2", func := "swingle/swinglelaw07.LzLimit", spec := "lzLimit", unfollowed := true, recurses := true, plainKeys := false, apart := false, narrowed := true }
def LzLimitUptoSaid : Prop := lzLimitUptoRow.holds Try.pinned (OpenSpec.upto lzLimitSpec)

/-- 'swinglelaw07.LzExpands', WHERE WHAT IT READS IS OF BULK AT MOST 1048576: true; the input reads as it did. -/
def lzExpandsUptoRow : OpenClaim := { program := "ythmlfeaoaanmoaa", sum := "b9e13920f06d9a175f86ac80360c32b0a853541fdbb89f918350922ee2fc06d2", func := "swingle/swinglelaw07.LzExpands", spec := "lzExpands", unfollowed := true, recurses := true, plainKeys := false, apart := false, narrowed := true }
def LzExpandsUptoSaid : Prop := lzExpandsUptoRow.holds Try.pinned (OpenSpec.upto lzExpandsSpec)

/-- 'swinglelaw21.EndingReads', WHERE WHAT IT READS IS OF BULK AT MOST 1048576: true; the input reads as it did. -/
def endingReadsUptoRow : OpenClaim := { program := "ythmlfeaoaanmoaa", sum := "b9e13920f06d9a175f86ac80360c32b0a853541fdbb89f918350922ee2fc06d2", func := "swingle/swinglelaw21.EndingReads", spec := "endingReads", inPlace := ["internal/abi.NoEscape"], unfollowed := true, recurses := true, plainKeys := false, apart := false, narrowed := true }
def EndingReadsUptoSaid : Prop := endingReadsUptoRow.holds Try.pinned (OpenSpec.upto endingReadsSpec)

end Rows
end Go.Proofs.Ythmlfeaoaanmoaa
