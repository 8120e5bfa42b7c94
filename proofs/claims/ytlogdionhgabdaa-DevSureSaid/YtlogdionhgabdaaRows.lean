/-
  No cell of these rows narrows 'for every input' (looked for: loops, veiled, ifaces, maps, wideKeys, modest, calm, conditions, laid).
  DERIVED. THE GIVEN ROWS OF THIS SEAT. 3 by the template 'for every input the law returns true; each argument reads behind the call as it read before'; 0 by the template 'total and deterministic' (their statements: YtlogdionhgabdaaTotals.lean).
  GIVEN WITH THE SEED: the statements are not yours to turn. If you find one false, say at which input.
  Laid BY PROGRAM, IN A SANDBOX (cutbox-rows.mjs): the forced cells as the released guide's own fill.sh prints them over the translation 84971d3d33baf9ff… (all of the seat's roots in one cut). By AI agents, Wed Nov 11 2026. No macro, syntax, notation, axiom, sorry.
-/
import Derived.Test.YtlogdionhgabdaaChecked
import GoSem.Claim
import GoSem.ClaimJoined
import GoSem.ClaimMapViews
import Derived.JoinedTies
import Derived.KernelRfl
namespace Go.Proofs.Ytlogdionhgabdaa
/- THE CELL 'sum', in the pinned program and in every row, IS THE sha256 OF THE DUMP (.gsa) THAT YtlogdionhgabdaaProg.lean LOADS. Nothing in Lean hashes anything: it is a label: what it is worth is what the hold of that sum in a sandbox is worth. -/
noncomputable def Try.pinned : Pinned := { name := "ytlogdionhgabdaa", sum := "84971d3d33baf9ff9f1b7440dc257b7a7b51b2a9a32a49d04ff9a7c68623318c", checked := Try.checked }
namespace Rows
def none {H : Type} : Left H := { results := [], args := [] }

/-- 'swinglelaw17.DevFuse': WHATEVER THE INPUT: true; the input reads as it did. -/
def devFuseSpec : ChangeSpec := { name := "devFuse", fn := fun _ => fun
  | [d1, d2, d3] => { results := [.lit (.bool true)], args := [d1, d2, d3] }
  | _ => none }
def devFuseRow : OpenClaim := { program := "ytlogdionhgabdaa", sum := "84971d3d33baf9ff9f1b7440dc257b7a7b51b2a9a32a49d04ff9a7c68623318c", func := "swingle/swinglelaw17.DevFuse", spec := "devFuse", inPlace := ["maps.clone", "internal/abi.NoEscape", "internal/bytealg.MakeNoZero"], unfollowed := true, recurses := true, apart := false }
def DevFuseSaid : Prop := devFuseRow.holds Try.pinned (OpenSpec.ofChange devFuseSpec)

/-- ITS FALSE NEIGHBOUR: 'it returns false'. Refute it at one input. -/
def devFuseWrong : ChangeSpec := { name := "devFuse", fn := fun _ => fun
  | [d1, d2, d3] => { results := [.lit (.bool false)], args := [d1, d2, d3] }
  | _ => none }
def DevFuseWrongFalsely : Prop := devFuseRow.holds Try.pinned (OpenSpec.ofChange devFuseWrong)

/-- 'swinglelaw17.DevPlays': WHATEVER THE INPUT: true; the input reads as it did. -/
def devPlaysSpec : ChangeSpec := { name := "devPlays", fn := fun _ => fun
  | [d1, d2] => { results := [.lit (.bool true)], args := [d1, d2] }
  | _ => none }
def devPlaysRow : OpenClaim := { program := "ytlogdionhgabdaa", sum := "84971d3d33baf9ff9f1b7440dc257b7a7b51b2a9a32a49d04ff9a7c68623318c", func := "swingle/swinglelaw17.DevPlays", spec := "devPlays", inPlace := ["maps.clone", "internal/abi.NoEscape", "internal/bytealg.MakeNoZero"], unfollowed := true, recurses := true, apart := false }
def DevPlaysSaid : Prop := devPlaysRow.holds Try.pinned (OpenSpec.ofChange devPlaysSpec)

/-- ITS FALSE NEIGHBOUR: 'it returns false'. Refute it at one input. -/
def devPlaysWrong : ChangeSpec := { name := "devPlays", fn := fun _ => fun
  | [d1, d2] => { results := [.lit (.bool false)], args := [d1, d2] }
  | _ => none }
def DevPlaysWrongFalsely : Prop := devPlaysRow.holds Try.pinned (OpenSpec.ofChange devPlaysWrong)

/-- 'swinglelaw17.DevSure': WHATEVER THE INPUT: true; the input reads as it did. -/
def devSureSpec : ChangeSpec := { name := "devSure", fn := fun _ => fun
  | [d1, d2, d3] => { results := [.lit (.bool true)], args := [d1, d2, d3] }
  | _ => none }
def devSureRow : OpenClaim := { program := "ytlogdionhgabdaa", sum := "84971d3d33baf9ff9f1b7440dc257b7a7b51b2a9a32a49d04ff9a7c68623318c", func := "swingle/swinglelaw17.DevSure", spec := "devSure", inPlace := ["maps.clone", "internal/abi.NoEscape", "internal/bytealg.MakeNoZero"], unfollowed := true, recurses := true, apart := false }
def DevSureSaid : Prop := devSureRow.holds Try.pinned (OpenSpec.ofChange devSureSpec)

/-- ITS FALSE NEIGHBOUR: 'it returns false'. Refute it at one input. -/
def devSureWrong : ChangeSpec := { name := "devSure", fn := fun _ => fun
  | [d1, d2, d3] => { results := [.lit (.bool false)], args := [d1, d2, d3] }
  | _ => none }
def DevSureWrongFalsely : Prop := devSureRow.holds Try.pinned (OpenSpec.ofChange devSureWrong)

/- THE SECOND FORM. 'bulk': how many values and letters a reading holds, each counted each time it is reached (what is shared counts as often as it is met; a slice's spare places count too). A statement '..UptoSaid' is the law's where the arguments, and the package variables that the reading takes, are together of bulk at most 1048576: NARROWER than '..Said'. Prove '..Said' where nothing that the law and all that it calls make is longer than what came in: it says more and counts as full. Else prove '..UptoSaid'. A law counts once. -/
mutual
def uptoBulk {H : Type} : DataW H → Nat
  | .lit (.string bytes) => bytes.length + 1
  | .lit _ => 1
  | .nil => 1
  | .ptr d => uptoBulk d + 1
  | .slice elems spare => uptoBulkAll elems + uptoBulkAll spare + 1
  | .agg parts => uptoBulkAll parts + 1
  | .iface _ d => uptoBulk d + 1
  | .map entries => uptoBulkEntries entries + 1
  | .held _ => 1
def uptoBulkAll {H : Type} : List (DataW H) → Nat
  | [] => 0
  | d :: r => uptoBulk d + uptoBulkAll r
def uptoBulkEntries {H : Type} : List (Lit × DataW H) → Nat
  | [] => 0
  | x :: r => uptoBulkEntry x + uptoBulkEntries r
def uptoBulkEntry {H : Type} : Lit × DataW H → Nat
  | (.string bytes, d) => bytes.length + uptoBulk d + 1
  | (_, d) => uptoBulk d + 1
 end
def uptoSmall : (H : Type) → List (DataW H) → Bool := fun _ ds => decide (uptoBulkAll ds ≤ 1048576)
def OpenSpec.upto (s : _root_.Go.ChangeSpec) : _root_.Go.OpenSpec := { _root_.Go.OpenSpec.ofChange s with cond := some uptoSmall }

/-- 'swinglelaw17.DevFuse', WHERE WHAT IT READS IS OF BULK AT MOST 1048576: true; the input reads as it did. -/
def devFuseUptoRow : OpenClaim := { program := "ytlogdionhgabdaa", sum := "84971d3d33baf9ff9f1b7440dc257b7a7b51b2a9a32a49d04ff9a7c68623318c", func := "swingle/swinglelaw17.DevFuse", spec := "devFuse", inPlace := ["maps.clone", "internal/abi.NoEscape", "internal/bytealg.MakeNoZero"], unfollowed := true, recurses := true, apart := false, narrowed := true }
def DevFuseUptoSaid : Prop := devFuseUptoRow.holds Try.pinned (OpenSpec.upto devFuseSpec)

/-- 'swinglelaw17.DevPlays', WHERE WHAT IT READS IS OF BULK AT MOST 1048576: true; the input reads as it did. -/
def devPlaysUptoRow : OpenClaim := { program := "ytlogdionhgabdaa", sum := "84971d3d33baf9ff9f1b7440dc257b7a7b51b2a9a32a49d04ff9a7c68623318c", func := "swingle/swinglelaw17.DevPlays", spec := "devPlays", inPlace := ["maps.clone", "internal/abi.NoEscape", "internal/bytealg.MakeNoZero"], unfollowed := true, recurses := true, apart := false, narrowed := true }
def DevPlaysUptoSaid : Prop := devPlaysUptoRow.holds Try.pinned (OpenSpec.upto devPlaysSpec)

/-- 'swinglelaw17.DevSure', WHERE WHAT IT READS IS OF BULK AT MOST 1048576: true; the input reads as it did. -/
def devSureUptoRow : OpenClaim := { program := "ytlogdionhgabdaa", sum := "84971d3d33baf9ff9f1b7440dc257b7a7b51b2a9a32a49d04ff9a7c68623318c", func := "swingle/swinglelaw17.DevSure", spec := "devSure", inPlace := ["maps.clone", "internal/abi.NoEscape", "internal/bytealg.MakeNoZero"], unfollowed := true, recurses := true, apart := false, narrowed := true }
def DevSureUptoSaid : Prop := devSureUptoRow.holds Try.pinned (OpenSpec.upto devSureSpec)

end Rows
end Go.Proofs.Ytlogdionhgabdaa
