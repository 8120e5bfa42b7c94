/-
  No cell of these rows narrows 'for every input' (looked for: loops, veiled, ifaces, maps, wideKeys, modest, calm, conditions, laid).
  DERIVED. THE GIVEN ROWS OF THIS SEAT. 9 by the template 'for every input the law returns true; each argument reads behind the call as it read before'; 0 by the template 'total and deterministic' (their statements: YthdmajhhioiaoaaTotals.lean).
  GIVEN WITH THE SEED: the statements are not yours to turn. If you find one false, say at which input.
  Laid BY PROGRAM, IN A SANDBOX (cutbox-rows.mjs): the forced cells as the released guide's own fill.sh prints them over the translation 35f3c5cd574bf122… (all of the seat's roots in one cut). By AI agents, Wed Nov 11 2026. No macro, syntax, notation, axiom, sorry.
-/
import Derived.Test.YthdmajhhioiaoaaChecked
import GoSem.Claim
import GoSem.ClaimJoined
import GoSem.ClaimMapViews
import Derived.JoinedTies
import Derived.KernelRfl
namespace Go.Proofs.Ythdmajhhioiaoaa
/- THE CELL 'sum', in the pinned program and in every row, IS THE sha256 OF THE DUMP (.gsa) THAT YthdmajhhioiaoaaProg.lean LOADS. Nothing in Lean hashes anything: it is a label: what it is worth is what the hold of that sum in a sandbox is worth. -/
noncomputable def Try.pinned : Pinned := { name := "ythdmajhhioiaoaa", sum := "35f3c5cd574bf122db97456762e7a39d50fae098494059528e42d5be5fb3073c", checked := Try.checked }
namespace Rows
def none {H : Type} : Left H := { results := [], args := [] }

/-- 'swinglelaw01.FieldNumbers': WHATEVER THE INPUT: true; the input reads as it did. -/
def fieldNumbersSpec : ChangeSpec := { name := "fieldNumbers", fn := fun _ => fun
  | [d1, d2, d3] => { results := [.lit (.bool true)], args := [d1, d2, d3] }
  | _ => none }
def fieldNumbersRow : OpenClaim := { program := "ythdmajhhioiaoaa", sum := "35f3c5cd574bf122db97456762e7a39d50fae098494059528e42d5be5fb3073c", func := "swingle/swinglelaw01.FieldNumbers", spec := "fieldNumbers", apart := false }
def FieldNumbersSaid : Prop := fieldNumbersRow.holds Try.pinned (OpenSpec.ofChange fieldNumbersSpec)

/-- ITS FALSE NEIGHBOUR: 'it returns false'. Refute it at one input. -/
def fieldNumbersWrong : ChangeSpec := { name := "fieldNumbers", fn := fun _ => fun
  | [d1, d2, d3] => { results := [.lit (.bool false)], args := [d1, d2, d3] }
  | _ => none }
def FieldNumbersWrongFalsely : Prop := fieldNumbersRow.holds Try.pinned (OpenSpec.ofChange fieldNumbersWrong)

/-- 'swinglelaw02.SumBytes': WHATEVER THE INPUT: true; the input reads as it did. -/
def sumBytesSpec : ChangeSpec := { name := "sumBytes", fn := fun _ => fun
  | [d1, d2, d3] => { results := [.lit (.bool true)], args := [d1, d2, d3] }
  | _ => none }
def sumBytesRow : OpenClaim := { program := "ythdmajhhioiaoaa", sum := "35f3c5cd574bf122db97456762e7a39d50fae098494059528e42d5be5fb3073c", func := "swingle/swinglelaw02.SumBytes", spec := "sumBytes", apart := false }
def SumBytesSaid : Prop := sumBytesRow.holds Try.pinned (OpenSpec.ofChange sumBytesSpec)

/-- ITS FALSE NEIGHBOUR: 'it returns false'. Refute it at one input. -/
def sumBytesWrong : ChangeSpec := { name := "sumBytes", fn := fun _ => fun
  | [d1, d2, d3] => { results := [.lit (.bool false)], args := [d1, d2, d3] }
  | _ => none }
def SumBytesWrongFalsely : Prop := sumBytesRow.holds Try.pinned (OpenSpec.ofChange sumBytesWrong)

/-- 'swinglelaw06.SymbolBacks': WHATEVER THE INPUT: true; the input reads as it did. -/
def symbolBacksSpec : ChangeSpec := { name := "symbolBacks", fn := fun _ => fun
  | [d1, d2, d3] => { results := [.lit (.bool true)], args := [d1, d2, d3] }
  | _ => none }
def symbolBacksRow : OpenClaim := { program := "ythdmajhhioiaoaa", sum := "35f3c5cd574bf122db97456762e7a39d50fae098494059528e42d5be5fb3073c", func := "swingle/swinglelaw06.SymbolBacks", spec := "symbolBacks", apart := false }
def SymbolBacksSaid : Prop := symbolBacksRow.holds Try.pinned (OpenSpec.ofChange symbolBacksSpec)

/-- ITS FALSE NEIGHBOUR: 'it returns false'. Refute it at one input. -/
def symbolBacksWrong : ChangeSpec := { name := "symbolBacks", fn := fun _ => fun
  | [d1, d2, d3] => { results := [.lit (.bool false)], args := [d1, d2, d3] }
  | _ => none }
def SymbolBacksWrongFalsely : Prop := symbolBacksRow.holds Try.pinned (OpenSpec.ofChange symbolBacksWrong)

/-- 'swinglelaw01.FieldReads': WHATEVER THE INPUT: true; the input reads as it did. -/
def fieldReadsSpec : ChangeSpec := { name := "fieldReads", fn := fun _ => fun
  | [d1, d2] => { results := [.lit (.bool true)], args := [d1, d2] }
  | _ => none }
def fieldReadsRow : OpenClaim := { program := "ythdmajhhioiaoaa", sum := "35f3c5cd574bf122db97456762e7a39d50fae098494059528e42d5be5fb3073c", func := "swingle/swinglelaw01.FieldReads", spec := "fieldReads", apart := false }
def FieldReadsSaid : Prop := fieldReadsRow.holds Try.pinned (OpenSpec.ofChange fieldReadsSpec)

/-- ITS FALSE NEIGHBOUR: 'it returns false'. Refute it at one input. -/
def fieldReadsWrong : ChangeSpec := { name := "fieldReads", fn := fun _ => fun
  | [d1, d2] => { results := [.lit (.bool false)], args := [d1, d2] }
  | _ => none }
def FieldReadsWrongFalsely : Prop := fieldReadsRow.holds Try.pinned (OpenSpec.ofChange fieldReadsWrong)

/-- 'swinglelaw02.SumNoughts': WHATEVER THE INPUT: true; the input reads as it did. -/
def sumNoughtsSpec : ChangeSpec := { name := "sumNoughts", fn := fun _ => fun
  | [d1, d2, d3] => { results := [.lit (.bool true)], args := [d1, d2, d3] }
  | _ => none }
def sumNoughtsRow : OpenClaim := { program := "ythdmajhhioiaoaa", sum := "35f3c5cd574bf122db97456762e7a39d50fae098494059528e42d5be5fb3073c", func := "swingle/swinglelaw02.SumNoughts", spec := "sumNoughts", apart := false }
def SumNoughtsSaid : Prop := sumNoughtsRow.holds Try.pinned (OpenSpec.ofChange sumNoughtsSpec)

/-- ITS FALSE NEIGHBOUR: 'it returns false'. Refute it at one input. -/
def sumNoughtsWrong : ChangeSpec := { name := "sumNoughts", fn := fun _ => fun
  | [d1, d2, d3] => { results := [.lit (.bool false)], args := [d1, d2, d3] }
  | _ => none }
def SumNoughtsWrongFalsely : Prop := sumNoughtsRow.holds Try.pinned (OpenSpec.ofChange sumNoughtsWrong)

/-- 'swinglelaw02.SumParts': WHATEVER THE INPUT: true; the input reads as it did. -/
def sumPartsSpec : ChangeSpec := { name := "sumParts", fn := fun _ => fun
  | [d1, d2, d3] => { results := [.lit (.bool true)], args := [d1, d2, d3] }
  | _ => none }
def sumPartsRow : OpenClaim := { program := "ythdmajhhioiaoaa", sum := "35f3c5cd574bf122db97456762e7a39d50fae098494059528e42d5be5fb3073c", func := "swingle/swinglelaw02.SumParts", spec := "sumParts", apart := false }
def SumPartsSaid : Prop := sumPartsRow.holds Try.pinned (OpenSpec.ofChange sumPartsSpec)

/-- ITS FALSE NEIGHBOUR: 'it returns false'. Refute it at one input. -/
def sumPartsWrong : ChangeSpec := { name := "sumParts", fn := fun _ => fun
  | [d1, d2, d3] => { results := [.lit (.bool false)], args := [d1, d2, d3] }
  | _ => none }
def SumPartsWrongFalsely : Prop := sumPartsRow.holds Try.pinned (OpenSpec.ofChange sumPartsWrong)

/-- 'swinglelaw06.SymbolLongs': WHATEVER THE INPUT: true; the input reads as it did. -/
def symbolLongsSpec : ChangeSpec := { name := "symbolLongs", fn := fun _ => fun
  | [d1, d2, d3] => { results := [.lit (.bool true)], args := [d1, d2, d3] }
  | _ => none }
def symbolLongsRow : OpenClaim := { program := "ythdmajhhioiaoaa", sum := "35f3c5cd574bf122db97456762e7a39d50fae098494059528e42d5be5fb3073c", func := "swingle/swinglelaw06.SymbolLongs", spec := "symbolLongs", apart := false }
def SymbolLongsSaid : Prop := symbolLongsRow.holds Try.pinned (OpenSpec.ofChange symbolLongsSpec)

/-- ITS FALSE NEIGHBOUR: 'it returns false'. Refute it at one input. -/
def symbolLongsWrong : ChangeSpec := { name := "symbolLongs", fn := fun _ => fun
  | [d1, d2, d3] => { results := [.lit (.bool false)], args := [d1, d2, d3] }
  | _ => none }
def SymbolLongsWrongFalsely : Prop := symbolLongsRow.holds Try.pinned (OpenSpec.ofChange symbolLongsWrong)

/-- 'swinglelaw06.SymbolBack': WHATEVER THE INPUT: true; the input reads as it did. -/
def symbolBackSpec : ChangeSpec := { name := "symbolBack", fn := fun _ => fun
  | [d1, d2] => { results := [.lit (.bool true)], args := [d1, d2] }
  | _ => none }
def symbolBackRow : OpenClaim := { program := "ythdmajhhioiaoaa", sum := "35f3c5cd574bf122db97456762e7a39d50fae098494059528e42d5be5fb3073c", func := "swingle/swinglelaw06.SymbolBack", spec := "symbolBack", apart := false }
def SymbolBackSaid : Prop := symbolBackRow.holds Try.pinned (OpenSpec.ofChange symbolBackSpec)

/-- ITS FALSE NEIGHBOUR: 'it returns false'. Refute it at one input. -/
def symbolBackWrong : ChangeSpec := { name := "symbolBack", fn := fun _ => fun
  | [d1, d2] => { results := [.lit (.bool false)], args := [d1, d2] }
  | _ => none }
def SymbolBackWrongFalsely : Prop := symbolBackRow.holds Try.pinned (OpenSpec.ofChange symbolBackWrong)

/-- 'swinglelaw01.FieldBack': WHATEVER THE INPUT: true; the input reads as it did. -/
def fieldBackSpec : ChangeSpec := { name := "fieldBack", fn := fun _ => fun
  | [d1, d2, d3] => { results := [.lit (.bool true)], args := [d1, d2, d3] }
  | _ => none }
def fieldBackRow : OpenClaim := { program := "ythdmajhhioiaoaa", sum := "35f3c5cd574bf122db97456762e7a39d50fae098494059528e42d5be5fb3073c", func := "swingle/swinglelaw01.FieldBack", spec := "fieldBack", inPlace := ["internal/abi.NoEscape"], apart := false }
def FieldBackSaid : Prop := fieldBackRow.holds Try.pinned (OpenSpec.ofChange fieldBackSpec)

/-- ITS FALSE NEIGHBOUR: 'it returns false'. Refute it at one input. -/
def fieldBackWrong : ChangeSpec := { name := "fieldBack", fn := fun _ => fun
  | [d1, d2, d3] => { results := [.lit (.bool false)], args := [d1, d2, d3] }
  | _ => none }
def FieldBackWrongFalsely : Prop := fieldBackRow.holds Try.pinned (OpenSpec.ofChange fieldBackWrong)

/- THE SECOND FORM. 'bulk': how many values and letters a reading holds, each counted each time it is reached (what is shared counts as often as it is met; a slice's spare places count too). A statement '..UptoSaid' is the law's where the arguments, and the package variables that the reading takes, are together of bulk at most 1048576: NARROWER than '..Said'. Prove '..Said' where nothing that the law and all that it calls make is longer than what came in: it says more and counts as full. Else prove '..UptoSaid'. A law counts once. -/
mutual
def uptoBulk {H : Type} : DataW H → Nat
  | .lit (.string bytes) => bytes.length + 1
  | .lit _ => 1
  | .nil => 1
  | .ptr d => uptoBulk d + 1
  | .slice elems spare => uptoBulkAll elems + uptoBulkAll spare + 1
  | .agg parts => uptoBulkAll parts + 1
  | .iface _ d => uptoBulk d + 1
  | .map entries => uptoBulkEntries entries + 1
  | .held _ => 1
def uptoBulkAll {H : Type} : List (DataW H) → Nat
  | [] => 0
  | d :: r => uptoBulk d + uptoBulkAll r
def uptoBulkEntries {H : Type} : List (Lit × DataW H) → Nat
  | [] => 0
  | x :: r => uptoBulkEntry x + uptoBulkEntries r
def uptoBulkEntry {H : Type} : Lit × DataW H → Nat
  | (.string bytes, d) => bytes.length + uptoBulk d + 1
  | (_, d) => uptoBulk d + 1
 end
def uptoSmall : (H : Type) → List (DataW H) → Bool := fun _ ds => decide (uptoBulkAll ds ≤ 1048576)
def OpenSpec.upto (s : _root_.Go.ChangeSpec) : _root_.Go.OpenSpec := { _root_.Go.OpenSpec.ofChange s with cond := some uptoSmall }

/-- 'swinglelaw01.FieldNumbers', WHERE WHAT IT READS IS OF BULK AT MOST 1048576: true; the input reads as it did. -/
def fieldNumbersUptoRow : OpenClaim := { program := "ythdmajhhioiaoaa", sum := "35f3c5cd574bf122db97456762e7a39d50fae098494059528e42d5be5fb3073c", func := "swingle/swinglelaw01.FieldNumbers", spec := "fieldNumbers", apart := false, narrowed := true }
def FieldNumbersUptoSaid : Prop := fieldNumbersUptoRow.holds Try.pinned (OpenSpec.upto fieldNumbersSpec)

/-- 'swinglelaw02.SumBytes', WHERE WHAT IT READS IS OF BULK AT MOST 1048576: true; the input reads as it did. -/
def sumBytesUptoRow : OpenClaim := { program := "ythdmajhhioiaoaa", sum := "35f3c5cd574bf122db97456762e7a39d50fae098494059528e42d5be5fb3073c", func := "swingle/swinglelaw02.SumBytes", spec := "sumBytes", apart := false, narrowed := true }
def SumBytesUptoSaid : Prop := sumBytesUptoRow.holds Try.pinned (OpenSpec.upto sumBytesSpec)

/-- 'swinglelaw06.SymbolBacks', WHERE WHAT IT READS IS OF BULK AT MOST 1048576: true; the input reads as it did. -/
def symbolBacksUptoRow : OpenClaim := { program := "ythdmajhhioiaoaa", sum := "35f3c5cd574bf122db97456762e7a39d50fae098494059528e42d5be5fb3073c", func := "swingle/swinglelaw06.SymbolBacks", spec := "symbolBacks", apart := false, narrowed := true }
def SymbolBacksUptoSaid : Prop := symbolBacksUptoRow.holds Try.pinned (OpenSpec.upto symbolBacksSpec)

/-- 'swinglelaw01.FieldReads', WHERE WHAT IT READS IS OF BULK AT MOST 1048576: true; the input reads as it did. -/
def fieldReadsUptoRow : OpenClaim := { program := "ythdmajhhioiaoaa", sum := "35f3c5cd574bf122db97456762e7a39d50fae098494059528e42d5be5fb3073c", func := "swingle/swinglelaw01.FieldReads", spec := "fieldReads", apart := false, narrowed := true }
def FieldReadsUptoSaid : Prop := fieldReadsUptoRow.holds Try.pinned (OpenSpec.upto fieldReadsSpec)

/-- 'swinglelaw02.SumNoughts', WHERE WHAT IT READS IS OF BULK AT MOST 1048576: true; the input reads as it did. -/
def sumNoughtsUptoRow : OpenClaim := { program := "ythdmajhhioiaoaa", sum := "35f3c5cd574bf122db97456762e7a39d50fae098494059528e42d5be5fb3073c", func := "swingle/swinglelaw02.SumNoughts", spec := "sumNoughts", apart := false, narrowed := true }
def SumNoughtsUptoSaid : Prop := sumNoughtsUptoRow.holds Try.pinned (OpenSpec.upto sumNoughtsSpec)

/-- 'swinglelaw02.SumParts', WHERE WHAT IT READS IS OF BULK AT MOST 1048576: true; the input reads as it did. -/
def sumPartsUptoRow : OpenClaim := { program := "ythdmajhhioiaoaa", sum := "35f3c5cd574bf122db97456762e7a39d50fae098494059528e42d5be5fb3073c", func := "swingle/swinglelaw02.SumParts", spec := "sumParts", apart := false, narrowed := true }
def SumPartsUptoSaid : Prop := sumPartsUptoRow.holds Try.pinned (OpenSpec.upto sumPartsSpec)

/-- 'swinglelaw06.SymbolLongs', WHERE WHAT IT READS IS OF BULK AT MOST 1048576: true; the input reads as it did. -/
def symbolLongsUptoRow : OpenClaim := { program := "ythdmajhhioiaoaa", sum := "35f3c5cd574bf122db97456762e7a39d50fae098494059528e42d5be5fb3073c", func := "swingle/swinglelaw06.SymbolLongs", spec := "symbolLongs", apart := false, narrowed := true }
def SymbolLongsUptoSaid : Prop := symbolLongsUptoRow.holds Try.pinned (OpenSpec.upto symbolLongsSpec)

/-- 'swinglelaw06.SymbolBack', WHERE WHAT IT READS IS OF BULK AT MOST 1048576: true; the input reads as it did. -/
def symbolBackUptoRow : OpenClaim := { program := "ythdmajhhioiaoaa", sum := "35f3c5cd574bf122db97456762e7a39d50fae098494059528e42d5be5fb3073c", func := "swingle/swinglelaw06.SymbolBack", spec := "symbolBack", apart := false, narrowed := true }
def SymbolBackUptoSaid : Prop := symbolBackUptoRow.holds Try.pinned (OpenSpec.upto symbolBackSpec)

/-- 'swinglelaw01.FieldBack', WHERE WHAT IT READS IS OF BULK AT MOST 1048576: true; the input reads as it did. -/
def fieldBackUptoRow : OpenClaim := { program := "ythdmajhhioiaoaa", sum := "35f3c5cd574bf122db97456762e7a39d50fae098494059528e42d5be5fb3073c", func := "swingle/swinglelaw01.FieldBack", spec := "fieldBack", inPlace := ["internal/abi.NoEscape"], apart := false, narrowed := true }
def FieldBackUptoSaid : Prop := fieldBackUptoRow.holds Try.pinned (OpenSpec.upto fieldBackSpec)

end Rows
end Go.Proofs.Ythdmajhhioiaoaa
