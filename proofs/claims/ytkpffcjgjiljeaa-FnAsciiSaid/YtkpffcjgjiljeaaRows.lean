/-
  No cell of these rows narrows 'for every input' (looked for: loops, veiled, ifaces, maps, wideKeys, modest, calm, conditions, laid).
  DERIVED. THE GIVEN ROWS OF THIS SEAT. 5 by the template 'for every input the law returns true; each argument reads behind the call as it read before'; 0 by the template 'total and deterministic' (their statements: YtkpffcjgjiljeaaTotals.lean).
  GIVEN WITH THE SEED: the statements are not yours to turn. If you find one false, say at which input.
  Laid BY PROGRAM, IN A SANDBOX (cutbox-rows.mjs): the forced cells as the released guide's own fill.sh prints them over the translation c7db603b3efbc176… (all of the seat's roots in one cut). By AI agents, Wed Nov 11 2026. No macro, syntax, notation, axiom, sorry.
-/
import Derived.Test.YtkpffcjgjiljeaaChecked
import GoSem.Claim
import GoSem.ClaimJoined
import GoSem.ClaimMapViews
import Derived.JoinedTies
import Derived.KernelRfl
namespace Go.Proofs.Ytkpffcjgjiljeaa
/- THE CELL 'sum', in the pinned program and in every row, IS THE sha256 OF THE DUMP (.gsa) THAT YtkpffcjgjiljeaaProg.lean LOADS. Nothing in Lean hashes anything: it is a label: what it is worth is what the hold of that sum in a sandbox is worth. -/
noncomputable def Try.pinned : Pinned := { name := "ytkpffcjgjiljeaa", sum := "c7db603b3efbc1763380b6c591114bcc766ebbc14ff28696c223cc248452a814", checked := Try.checked }
namespace Rows
def none {H : Type} : Left H := { results := [], args := [] }

/-- 'laws.FnMbap': WHATEVER THE INPUT: true; the input reads as it did. -/
def fnMbapSpec : ChangeSpec := { name := "fnMbap", fn := fun _ => fun
  | [d] => { results := [.lit (.bool true)], args := [d] }
  | _ => none }
def fnMbapRow : OpenClaim := { program := "ytkpffcjgjiljeaa", sum := "c7db603b3efbc1763380b6c591114bcc766ebbc14ff28696c223cc248452a814", func := "loop.example/g00129/laws.FnMbap", spec := "fnMbap", apart := false }
def FnMbapSaid : Prop := fnMbapRow.holds Try.pinned (OpenSpec.ofChange fnMbapSpec)

/-- ITS FALSE NEIGHBOUR: 'it returns false'. Refute it at one input. -/
def fnMbapWrong : ChangeSpec := { name := "fnMbap", fn := fun _ => fun
  | [d] => { results := [.lit (.bool false)], args := [d] }
  | _ => none }
def FnMbapWrongFalsely : Prop := fnMbapRow.holds Try.pinned (OpenSpec.ofChange fnMbapWrong)

/-- 'laws.FnGaps': WHATEVER THE INPUT: true; the input reads as it did. -/
def fnGapsSpec : ChangeSpec := { name := "fnGaps", fn := fun _ => fun
  | [d] => { results := [.lit (.bool true)], args := [d] }
  | _ => none }
def fnGapsRow : OpenClaim := { program := "ytkpffcjgjiljeaa", sum := "c7db603b3efbc1763380b6c591114bcc766ebbc14ff28696c223cc248452a814", func := "loop.example/g00129/laws.FnGaps", spec := "fnGaps", apart := false }
def FnGapsSaid : Prop := fnGapsRow.holds Try.pinned (OpenSpec.ofChange fnGapsSpec)

/-- ITS FALSE NEIGHBOUR: 'it returns false'. Refute it at one input. -/
def fnGapsWrong : ChangeSpec := { name := "fnGaps", fn := fun _ => fun
  | [d] => { results := [.lit (.bool false)], args := [d] }
  | _ => none }
def FnGapsWrongFalsely : Prop := fnGapsRow.holds Try.pinned (OpenSpec.ofChange fnGapsWrong)

/-- 'laws.FnRtu': WHATEVER THE INPUT: true; the input reads as it did. -/
def fnRtuSpec : ChangeSpec := { name := "fnRtu", fn := fun _ => fun
  | [d] => { results := [.lit (.bool true)], args := [d] }
  | _ => none }
def fnRtuRow : OpenClaim := { program := "ytkpffcjgjiljeaa", sum := "c7db603b3efbc1763380b6c591114bcc766ebbc14ff28696c223cc248452a814", func := "loop.example/g00129/laws.FnRtu", spec := "fnRtu", apart := false }
def FnRtuSaid : Prop := fnRtuRow.holds Try.pinned (OpenSpec.ofChange fnRtuSpec)

/-- ITS FALSE NEIGHBOUR: 'it returns false'. Refute it at one input. -/
def fnRtuWrong : ChangeSpec := { name := "fnRtu", fn := fun _ => fun
  | [d] => { results := [.lit (.bool false)], args := [d] }
  | _ => none }
def FnRtuWrongFalsely : Prop := fnRtuRow.holds Try.pinned (OpenSpec.ofChange fnRtuWrong)

/-- 'laws.FnStreams': WHATEVER THE INPUT: true; the input reads as it did. -/
def fnStreamsSpec : ChangeSpec := { name := "fnStreams", fn := fun _ => fun
  | [d] => { results := [.lit (.bool true)], args := [d] }
  | _ => none }
def fnStreamsRow : OpenClaim := { program := "ytkpffcjgjiljeaa", sum := "c7db603b3efbc1763380b6c591114bcc766ebbc14ff28696c223cc248452a814", func := "loop.example/g00129/laws.FnStreams", spec := "fnStreams", apart := false }
def FnStreamsSaid : Prop := fnStreamsRow.holds Try.pinned (OpenSpec.ofChange fnStreamsSpec)

/-- ITS FALSE NEIGHBOUR: 'it returns false'. Refute it at one input. -/
def fnStreamsWrong : ChangeSpec := { name := "fnStreams", fn := fun _ => fun
  | [d] => { results := [.lit (.bool false)], args := [d] }
  | _ => none }
def FnStreamsWrongFalsely : Prop := fnStreamsRow.holds Try.pinned (OpenSpec.ofChange fnStreamsWrong)

/-- 'laws.FnAscii': WHATEVER THE INPUT: true; the input reads as it did. -/
def fnAsciiSpec : ChangeSpec := { name := "fnAscii", fn := fun _ => fun
  | [d] => { results := [.lit (.bool true)], args := [d] }
  | _ => none }
def fnAsciiRow : OpenClaim := { program := "ytkpffcjgjiljeaa", sum := "c7db603b3efbc1763380b6c591114bcc766ebbc14ff28696c223cc248452a814", func := "loop.example/g00129/laws.FnAscii", spec := "fnAscii", apart := false }
def FnAsciiSaid : Prop := fnAsciiRow.holds Try.pinned (OpenSpec.ofChange fnAsciiSpec)

/-- ITS FALSE NEIGHBOUR: 'it returns false'. Refute it at one input. -/
def fnAsciiWrong : ChangeSpec := { name := "fnAscii", fn := fun _ => fun
  | [d] => { results := [.lit (.bool false)], args := [d] }
  | _ => none }
def FnAsciiWrongFalsely : Prop := fnAsciiRow.holds Try.pinned (OpenSpec.ofChange fnAsciiWrong)

/- THE SECOND FORM. 'bulk': how many values and letters a reading holds, each counted each time it is reached (what is shared counts as often as it is met; a slice's spare places count too). A statement '..UptoSaid' is the law's where the arguments, and the package variables that the reading takes, are together of bulk at most 1048576: NARROWER than '..Said'. Prove '..Said' where nothing that the law and all that it calls make is longer than what came in: it says more and counts as full. Else prove '..UptoSaid'. A law counts once. -/
mutual
def uptoBulk {H : Type} : DataW H → Nat
  | .lit (.string bytes) => bytes.length + 1
  | .lit _ => 1
  | .nil => 1
  | .ptr d => uptoBulk d + 1
  | .slice elems spare => uptoBulkAll elems + uptoBulkAll spare + 1
  | .agg parts => uptoBulkAll parts + 1
  | .iface _ d => uptoBulk d + 1
  | .map entries => uptoBulkEntries entries + 1
  | .held _ => 1
def uptoBulkAll {H : Type} : List (DataW H) → Nat
  | [] => 0
  | d :: r => uptoBulk d + uptoBulkAll r
def uptoBulkEntries {H : Type} : List (Lit × DataW H) → Nat
  | [] => 0
  | x :: r => uptoBulkEntry x + uptoBulkEntries r
def uptoBulkEntry {H : Type} : Lit × DataW H → Nat
  | (.string bytes, d) => bytes.length + uptoBulk d + 1
  | (_, d) => uptoBulk d + 1
 end
def uptoSmall : (H : Type) → List (DataW H) → Bool := fun _ ds => decide (uptoBulkAll ds ≤ 1048576)
def OpenSpec.upto (s : _root_.Go.ChangeSpec) : _root_.Go.OpenSpec := { _root_.Go.OpenSpec.ofChange s with cond := some uptoSmall }

/-- 'laws.FnMbap', WHERE WHAT IT READS IS OF BULK AT MOST 1048576: true; the input reads as it did. -/
def fnMbapUptoRow : OpenClaim := { program := "ytkpffcjgjiljeaa", sum := "c7db603b3efbc1763380b6c591114bcc766ebbc14ff28696c223cc248452a814", func := "loop.example/g00129/laws.FnMbap", spec := "fnMbap", apart := false, narrowed := true }
def FnMbapUptoSaid : Prop := fnMbapUptoRow.holds Try.pinned (OpenSpec.upto fnMbapSpec)

/-- 'laws.FnGaps', WHERE WHAT IT READS IS OF BULK AT MOST 1048576: true; the input reads as it did. -/
def fnGapsUptoRow : OpenClaim := { program := "ytkpffcjgjiljeaa", sum := "c7db603b3efbc1763380b6c591114bcc766ebbc14ff28696c223cc248452a814", func := "loop.example/g00129/laws.FnGaps", spec := "fnGaps", apart := false, narrowed := true }
def FnGapsUptoSaid : Prop := fnGapsUptoRow.holds Try.pinned (OpenSpec.upto fnGapsSpec)

/-- 'laws.FnRtu', WHERE WHAT IT READS IS OF BULK AT MOST 1048576: true; the input reads as it did. -/
def fnRtuUptoRow : OpenClaim := { program := "ytkpffcjgjiljeaa", sum := "c7db603b3efbc1763380b6c591114bcc766ebbc14ff28696c223cc248452a814", func := "loop.example/g00129/laws.FnRtu", spec := "fnRtu", apart := false, narrowed := true }
def FnRtuUptoSaid : Prop := fnRtuUptoRow.holds Try.pinned (OpenSpec.upto fnRtuSpec)

/-- 'laws.FnStreams', WHERE WHAT IT READS IS OF BULK AT MOST 1048576: true; the input reads as it did. -/
def fnStreamsUptoRow : OpenClaim := { program := "ytkpffcjgjiljeaa", sum := "c7db603b3efbc1763380b6c591114bcc766ebbc14ff28696c223cc248452a814", func := "loop.example/g00129/laws.FnStreams", spec := "fnStreams", apart := false, narrowed := true }
def FnStreamsUptoSaid : Prop := fnStreamsUptoRow.holds Try.pinned (OpenSpec.upto fnStreamsSpec)

/-- 'laws.FnAscii', WHERE WHAT IT READS IS OF BULK AT MOST 1048576: true; the input reads as it did. -/
def fnAsciiUptoRow : OpenClaim := { program := "ytkpffcjgjiljeaa", sum := "c7db603b3efbc1763380b6c591114bcc766ebbc14ff28696c223cc248452a814", func := "loop.example/g00129/laws.FnAscii", spec := "fnAscii", apart := false, narrowed := true }
def FnAsciiUptoSaid : Prop := fnAsciiUptoRow.holds Try.pinned (OpenSpec.upto fnAsciiSpec)

end Rows
end Go.Proofs.Ytkpffcjgjiljeaa
