/-
  No cell of these rows narrows 'for every input' (looked for: loops, veiled, ifaces, maps, wideKeys, modest, calm, conditions, laid).
  DERIVED. THE GIVEN ROWS OF THIS SEAT. 8 by the template 'for every input the law returns true; each argument reads behind the call as it read before'; 0 by the template 'total and deterministic' (their statements: YtpnkgldpmalklaaTotals.lean).
  GIVEN WITH THE SEED: the statements are not yours to turn. If you find one false, say at which input.
  Laid BY PROGRAM, IN A SANDBOX (cutbox-rows.mjs): the forced cells as the released guide's own fill.sh prints them over the translation 54010d2e843a7efb… (all of the seat's roots in one cut). By AI agents, Wed Nov 11 2026. No macro, syntax, notation, axiom, sorry.
-/
import Derived.Test.YtpnkgldpmalklaaChecked
import GoSem.Claim
import GoSem.ClaimJoined
import GoSem.ClaimMapViews
import Derived.JoinedTies
import Derived.KernelRfl
namespace Go.Proofs.Ytpnkgldpmalklaa
/- THE CELL 'sum', in the pinned program and in every row, IS THE sha256 OF THE DUMP (.gsa) THAT YtpnkgldpmalklaaProg.lean LOADS. Nothing in Lean hashes anything: it is a label: what it is worth is what the hold of that sum in a sandbox is worth. -/
noncomputable def Try.pinned : Pinned := { name := "ytpnkgldpmalklaa", sum := "54010d2e843a7efb5d9886e09fa4836d2dc92e085764caa939215893d96ac7bf", checked := Try.checked }
namespace Rows
def none {H : Type} : Left H := { results := [], args := [] }

/-- 'swinglelaw15.SortedPlays': WHATEVER THE INPUT: true; the input reads as it did. -/
def sortedPlaysSpec : ChangeSpec := { name := "sortedPlays", fn := fun _ => fun
  | [d1, d2, d3] => { results := [.lit (.bool true)], args := [d1, d2, d3] }
  | _ => none }
def sortedPlaysRow : OpenClaim := { program := "ytpnkgldpmalklaa", sum := "54010d2e843a7efb5d9886e09fa4836d2dc92e085764caa939215893d96ac7bf", func := "swingle/swinglelaw15.SortedPlays", spec := "sortedPlays", inPlace := ["slices.overlaps[swingle/sorted.entry[int, string]]"], unfollowed := true, recurses := true, apart := false }
def SortedPlaysSaid : Prop := sortedPlaysRow.holds Try.pinned (OpenSpec.ofChange sortedPlaysSpec)

/-- ITS FALSE NEIGHBOUR: 'it returns false'. Refute it at one input. -/
def sortedPlaysWrong : ChangeSpec := { name := "sortedPlays", fn := fun _ => fun
  | [d1, d2, d3] => { results := [.lit (.bool false)], args := [d1, d2, d3] }
  | _ => none }
def SortedPlaysWrongFalsely : Prop := sortedPlaysRow.holds Try.pinned (OpenSpec.ofChange sortedPlaysWrong)

/-- 'swinglelaw15.SortedAlike': WHATEVER THE INPUT: true; the input reads as it did. -/
def sortedAlikeSpec : ChangeSpec := { name := "sortedAlike", fn := fun _ => fun
  | [d] => { results := [.lit (.bool true)], args := [d] }
  | _ => none }
def sortedAlikeRow : OpenClaim := { program := "ytpnkgldpmalklaa", sum := "54010d2e843a7efb5d9886e09fa4836d2dc92e085764caa939215893d96ac7bf", func := "swingle/swinglelaw15.SortedAlike", spec := "sortedAlike", inPlace := ["slices.overlaps[swingle/sorted.entry[int, string]]"], unfollowed := true, recurses := true, apart := false }
def SortedAlikeSaid : Prop := sortedAlikeRow.holds Try.pinned (OpenSpec.ofChange sortedAlikeSpec)

/-- ITS FALSE NEIGHBOUR: 'it returns false'. Refute it at one input. -/
def sortedAlikeWrong : ChangeSpec := { name := "sortedAlike", fn := fun _ => fun
  | [d] => { results := [.lit (.bool false)], args := [d] }
  | _ => none }
def SortedAlikeWrongFalsely : Prop := sortedAlikeRow.holds Try.pinned (OpenSpec.ofChange sortedAlikeWrong)

/-- 'swinglelaw15.SortedJoins': WHATEVER THE INPUT: true; the input reads as it did. -/
def sortedJoinsSpec : ChangeSpec := { name := "sortedJoins", fn := fun _ => fun
  | [d1, d2, d3] => { results := [.lit (.bool true)], args := [d1, d2, d3] }
  | _ => none }
def sortedJoinsRow : OpenClaim := { program := "ytpnkgldpmalklaa", sum := "54010d2e843a7efb5d9886e09fa4836d2dc92e085764caa939215893d96ac7bf", func := "swingle/swinglelaw15.SortedJoins", spec := "sortedJoins", inPlace := ["slices.overlaps[swingle/sorted.entry[int, string]]"], unfollowed := true, recurses := true, apart := false }
def SortedJoinsSaid : Prop := sortedJoinsRow.holds Try.pinned (OpenSpec.ofChange sortedJoinsSpec)

/-- ITS FALSE NEIGHBOUR: 'it returns false'. Refute it at one input. -/
def sortedJoinsWrong : ChangeSpec := { name := "sortedJoins", fn := fun _ => fun
  | [d1, d2, d3] => { results := [.lit (.bool false)], args := [d1, d2, d3] }
  | _ => none }
def SortedJoinsWrongFalsely : Prop := sortedJoinsRow.holds Try.pinned (OpenSpec.ofChange sortedJoinsWrong)

/-- 'swinglelaw29.DetectStates': WHATEVER THE INPUT: true; the input reads as it did. -/
def detectStatesSpec : ChangeSpec := { name := "detectStates", fn := fun _ => fun
  | [d1, d2, d3] => { results := [.lit (.bool true)], args := [d1, d2, d3] }
  | _ => none }
def detectStatesRow : OpenClaim := { program := "ytpnkgldpmalklaa", sum := "54010d2e843a7efb5d9886e09fa4836d2dc92e085764caa939215893d96ac7bf", func := "swingle/swinglelaw29.DetectStates", spec := "detectStates", apart := false }
def DetectStatesSaid : Prop := detectStatesRow.holds Try.pinned (OpenSpec.ofChange detectStatesSpec)

/-- ITS FALSE NEIGHBOUR: 'it returns false'. Refute it at one input. -/
def detectStatesWrong : ChangeSpec := { name := "detectStates", fn := fun _ => fun
  | [d1, d2, d3] => { results := [.lit (.bool false)], args := [d1, d2, d3] }
  | _ => none }
def DetectStatesWrongFalsely : Prop := detectStatesRow.holds Try.pinned (OpenSpec.ofChange detectStatesWrong)

/-- 'swinglelaw30.ReconDecides': WHATEVER THE INPUT: true; the input reads as it did. -/
def reconDecidesSpec : ChangeSpec := { name := "reconDecides", fn := fun _ => fun
  | [d1, d2, d3] => { results := [.lit (.bool true)], args := [d1, d2, d3] }
  | _ => none }
def reconDecidesRow : OpenClaim := { program := "ytpnkgldpmalklaa", sum := "54010d2e843a7efb5d9886e09fa4836d2dc92e085764caa939215893d96ac7bf", func := "swingle/swinglelaw30.ReconDecides", spec := "reconDecides", unfollowed := true, recurses := true, apart := false }
def ReconDecidesSaid : Prop := reconDecidesRow.holds Try.pinned (OpenSpec.ofChange reconDecidesSpec)

/-- ITS FALSE NEIGHBOUR: 'it returns false'. Refute it at one input. -/
def reconDecidesWrong : ChangeSpec := { name := "reconDecides", fn := fun _ => fun
  | [d1, d2, d3] => { results := [.lit (.bool false)], args := [d1, d2, d3] }
  | _ => none }
def ReconDecidesWrongFalsely : Prop := reconDecidesRow.holds Try.pinned (OpenSpec.ofChange reconDecidesWrong)

/-- 'swinglelaw25.CommitWrites': WHATEVER THE INPUT: true; the input reads as it did. -/
def commitWritesSpec : ChangeSpec := { name := "commitWrites", fn := fun _ => fun
  | [d1, d2] => { results := [.lit (.bool true)], args := [d1, d2] }
  | _ => none }
def commitWritesRow : OpenClaim := { program := "ytpnkgldpmalklaa", sum := "54010d2e843a7efb5d9886e09fa4836d2dc92e085764caa939215893d96ac7bf", func := "swingle/swinglelaw25.CommitWrites", spec := "commitWrites", inPlace := ["internal/abi.NoEscape", "internal/bytealg.MakeNoZero"], apart := false }
def CommitWritesSaid : Prop := commitWritesRow.holds Try.pinned (OpenSpec.ofChange commitWritesSpec)

/-- ITS FALSE NEIGHBOUR: 'it returns false'. Refute it at one input. -/
def commitWritesWrong : ChangeSpec := { name := "commitWrites", fn := fun _ => fun
  | [d1, d2] => { results := [.lit (.bool false)], args := [d1, d2] }
  | _ => none }
def CommitWritesWrongFalsely : Prop := commitWritesRow.holds Try.pinned (OpenSpec.ofChange commitWritesWrong)

/-- 'swinglelaw25.CommitTurns': WHATEVER THE INPUT: true; the input reads as it did. -/
def commitTurnsSpec : ChangeSpec := { name := "commitTurns", fn := fun _ => fun
  | [d1, d2, d3] => { results := [.lit (.bool true)], args := [d1, d2, d3] }
  | _ => none }
def commitTurnsRow : OpenClaim := { program := "ytpnkgldpmalklaa", sum := "54010d2e843a7efb5d9886e09fa4836d2dc92e085764caa939215893d96ac7bf", func := "swingle/swinglelaw25.CommitTurns", spec := "commitTurns", inPlace := ["internal/abi.NoEscape", "internal/bytealg.MakeNoZero"], apart := false }
def CommitTurnsSaid : Prop := commitTurnsRow.holds Try.pinned (OpenSpec.ofChange commitTurnsSpec)

/-- ITS FALSE NEIGHBOUR: 'it returns false'. Refute it at one input. -/
def commitTurnsWrong : ChangeSpec := { name := "commitTurns", fn := fun _ => fun
  | [d1, d2, d3] => { results := [.lit (.bool false)], args := [d1, d2, d3] }
  | _ => none }
def CommitTurnsWrongFalsely : Prop := commitTurnsRow.holds Try.pinned (OpenSpec.ofChange commitTurnsWrong)

/-- 'swinglelaw25.CommitCuts': WHATEVER THE INPUT: true; the input reads as it did. -/
def commitCutsSpec : ChangeSpec := { name := "commitCuts", fn := fun _ => fun
  | [d1, d2] => { results := [.lit (.bool true)], args := [d1, d2] }
  | _ => none }
def commitCutsRow : OpenClaim := { program := "ytpnkgldpmalklaa", sum := "54010d2e843a7efb5d9886e09fa4836d2dc92e085764caa939215893d96ac7bf", func := "swingle/swinglelaw25.CommitCuts", spec := "commitCuts", inPlace := ["internal/abi.NoEscape", "internal/bytealg.MakeNoZero"], unfollowed := true, recurses := true, apart := false }
def CommitCutsSaid : Prop := commitCutsRow.holds Try.pinned (OpenSpec.ofChange commitCutsSpec)

/-- ITS FALSE NEIGHBOUR: 'it returns false'. Refute it at one input. -/
def commitCutsWrong : ChangeSpec := { name := "commitCuts", fn := fun _ => fun
  | [d1, d2] => { results := [.lit (.bool false)], args := [d1, d2] }
  | _ => none }
def CommitCutsWrongFalsely : Prop := commitCutsRow.holds Try.pinned (OpenSpec.ofChange commitCutsWrong)

/- THE SECOND FORM. 'bulk': how many values and letters a reading holds, each counted each time it is reached (what is shared counts as often as it is met; a slice's spare places count too). A statement '..UptoSaid' is the law's where the arguments, and the package variables that the reading takes, are together of bulk at most 1048576: NARROWER than '..Said'. Prove '..Said' where nothing that the law and all that it calls make is longer than what came in: it says more and counts as full. Else prove '..UptoSaid'. A law counts once. -/
mutual
def uptoBulk {H : Type} : DataW H → Nat
  | .lit (.string bytes) => bytes.length + 1
  | .lit _ => 1
  | .nil => 1
  | .ptr d => uptoBulk d + 1
  | .slice elems spare => uptoBulkAll elems + uptoBulkAll spare + 1
  | .agg parts => uptoBulkAll parts + 1
  | .iface _ d => uptoBulk d + 1
  | .map entries => uptoBulkEntries entries + 1
  | .held _ => 1
def uptoBulkAll {H : Type} : List (DataW H) → Nat
  | [] => 0
  | d :: r => uptoBulk d + uptoBulkAll r
def uptoBulkEntries {H : Type} : List (Lit × DataW H) → Nat
  | [] => 0
  | x :: r => uptoBulkEntry x + uptoBulkEntries r
def uptoBulkEntry {H : Type} : Lit × DataW H → Nat
  | (.string bytes, d) => bytes.length + uptoBulk d + 1
  | (_, d) => uptoBulk d + 1
 end
def uptoSmall : (H : Type) → List (DataW H) → Bool := fun _ ds => decide (uptoBulkAll ds ≤ 1048576)
def OpenSpec.upto (s : _root_.Go.ChangeSpec) : _root_.Go.OpenSpec := { _root_.Go.OpenSpec.ofChange s with cond := some uptoSmall }

/-- 'swinglelaw15.SortedPlays', WHERE WHAT IT READS IS OF BULK AT MOST 1048576: true; the input reads as it did. -/
def sortedPlaysUptoRow : OpenClaim := { program := "ytpnkgldpmalklaa", sum := "54010d2e843a7efb5d9886e09fa4836d2dc92e085764caa939215893d96ac7bf", func := "swingle/swinglelaw15.SortedPlays", spec := "sortedPlays", inPlace := ["slices.overlaps[swingle/sorted.entry[int, string]]"], unfollowed := true, recurses := true, apart := false, narrowed := true }
def SortedPlaysUptoSaid : Prop := sortedPlaysUptoRow.holds Try.pinned (OpenSpec.upto sortedPlaysSpec)

/-- 'swinglelaw15.SortedAlike', WHERE WHAT IT READS IS OF BULK AT MOST 1048576: true; the input reads as it did. -/
def sortedAlikeUptoRow : OpenClaim := { program := "ytpnkgldpmalklaa", sum := "54010d2e843a7efb5d9886e09fa4836d2dc92e085764caa939215893d96ac7bf", func := "swingle/swinglelaw15.SortedAlike", spec := "sortedAlike", inPlace := ["slices.overlaps[swingle/sorted.entry[int, string]]"], unfollowed := true, recurses := true, apart := false, narrowed := true }
def SortedAlikeUptoSaid : Prop := sortedAlikeUptoRow.holds Try.pinned (OpenSpec.upto sortedAlikeSpec)

/-- 'swinglelaw15.SortedJoins', WHERE WHAT IT READS IS OF BULK AT MOST 1048576: true; the input reads as it did. -/
def sortedJoinsUptoRow : OpenClaim := { program := "ytpnkgldpmalklaa", sum := "54010d2e843a7efb5d9886e09fa4836d2dc92e085764caa939215893d96ac7bf", func := "swingle/swinglelaw15.SortedJoins", spec := "sortedJoins", inPlace := ["slices.overlaps[swingle/sorted.entry[int, string]]"], unfollowed := true, recurses := true, apart := false, narrowed := true }
def SortedJoinsUptoSaid : Prop := sortedJoinsUptoRow.holds Try.pinned (OpenSpec.upto sortedJoinsSpec)

/-- 'swinglelaw29.DetectStates', WHERE WHAT IT READS IS OF BULK AT MOST 1048576: true; the input reads as it did. -/
def detectStatesUptoRow : OpenClaim := { program := "ytpnkgldpmalklaa", sum := "54010d2e843a7efb5d9886e09fa4836d2dc92e085764caa939215893d96ac7bf", func := "swingle/swinglelaw29.DetectStates", spec := "detectStates", apart := false, narrowed := true }
def DetectStatesUptoSaid : Prop := detectStatesUptoRow.holds Try.pinned (OpenSpec.upto detectStatesSpec)

/-- 'swinglelaw30.ReconDecides', WHERE WHAT IT READS IS OF BULK AT MOST 1048576: true; the input reads as it did. -/
def reconDecidesUptoRow : OpenClaim := { program := "ytpnkgldpmalklaa", sum := "54010d2e843a7efb5d9886e09fa4836d2dc92e085764caa939215893d96ac7bf", func := "swingle/swinglelaw30.ReconDecides", spec := "reconDecides", unfollowed := true, recurses := true, apart := false, narrowed := true }
def ReconDecidesUptoSaid : Prop := reconDecidesUptoRow.holds Try.pinned (OpenSpec.upto reconDecidesSpec)

/-- 'swinglelaw25.CommitWrites', WHERE WHAT IT READS IS OF BULK AT MOST 1048576: true; the input reads as it did. -/
def commitWritesUptoRow : OpenClaim := { program := "ytpnkgldpmalklaa", sum := "54010d2e843a7efb5d9886e09fa4836d2dc92e085764caa939215893d96ac7bf", func := "swingle/swinglelaw25.CommitWrites", spec := "commitWrites", inPlace := ["internal/abi.NoEscape", "internal/bytealg.MakeNoZero"], apart := false, narrowed := true }
def CommitWritesUptoSaid : Prop := commitWritesUptoRow.holds Try.pinned (OpenSpec.upto commitWritesSpec)

/-- 'swinglelaw25.CommitTurns', WHERE WHAT IT READS IS OF BULK AT MOST 1048576: true; the input reads as it did. -/
def commitTurnsUptoRow : OpenClaim := { program := "ytpnkgldpmalklaa", sum := "54010d2e843a7efb5d9886e09fa4836d2dc92e085764caa939215893d96ac7bf", func := "swingle/swinglelaw25.CommitTurns", spec := "commitTurns", inPlace := ["internal/abi.NoEscape", "internal/bytealg.MakeNoZero"], apart := false, narrowed := true }
def CommitTurnsUptoSaid : Prop := commitTurnsUptoRow.holds Try.pinned (OpenSpec.upto commitTurnsSpec)

/-- 'swinglelaw25.CommitCuts', WHERE WHAT IT READS IS OF BULK AT MOST 1048576: true; the input reads as it did. -/
def commitCutsUptoRow : OpenClaim := { program := "ytpnkgldpmalklaa", sum := "54010d2e843a7efb5d9886e09fa4836d2dc92e085764caa939215893d96ac7bf", func := "swingle/swinglelaw25.CommitCuts", spec := "commitCuts", inPlace := ["internal/abi.NoEscape", "internal/bytealg.MakeNoZero"], unfollowed := true, recurses := true, apart := false, narrowed := true }
def CommitCutsUptoSaid : Prop := commitCutsUptoRow.holds Try.pinned (OpenSpec.upto commitCutsSpec)

end Rows
end Go.Proofs.Ytpnkgldpmalklaa
