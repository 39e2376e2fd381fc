/-
  No cell of these rows narrows 'for every input' (looked for: loops, veiled, ifaces, maps, wideKeys, modest, calm, conditions, laid).
  DERIVED. THE GIVEN ROWS OF THIS SEAT. 12 by the template 'for every input the law returns true; each argument reads behind the call as it read before'; 0 by the template 'total and deterministic' (their statements: YtjjfjeoajhdlcaaTotals.lean).
  GIVEN WITH THE SEED: the statements are not yours to turn. If you find one false, say at which input.
  Laid BY PROGRAM, IN A SANDBOX (cutbox-rows.mjs): the forced cells as the released guide's own fill.sh prints them over the translation 30b8fa1f622b3c58… (all of the seat's roots in one cut). By AI agents, Wed Nov 11 2026. No macro, syntax, notation, axiom, sorry.
-/
import Derived.Test.YtjjfjeoajhdlcaaChecked
import GoSem.Claim
import GoSem.ClaimJoined
import GoSem.ClaimMapViews
import Derived.JoinedTies
import Derived.KernelRfl
namespace Go.Proofs.Ytjjfjeoajhdlcaa
/- THE CELL 'sum', in the pinned program and in every row, IS THE sha256 OF THE DUMP (.gsa) THAT YtjjfjeoajhdlcaaProg.lean LOADS. Nothing in Lean hashes anything: it is a label: what it is worth is what the hold of that sum in a sandbox is worth. -/
noncomputable def Try.pinned : Pinned := { name := "ytjjfjeoajhdlcaa", sum := "30b8fa1f622b3c5894a9896fbf8a3d9658ee2ef83061a6456af5e1c74c1729ef", checked := Try.checked }
namespace Rows
def none {H : Type} : Left H := { results := [], args := [] }

/-- 'laws.FnExactStreamOk': WHATEVER THE INPUT: true; the input reads as it did. -/
def fnExactStreamOkSpec : ChangeSpec := { name := "fnExactStreamOk", fn := fun _ => fun
  | [d] => { results := [.lit (.bool true)], args := [d] }
  | _ => none }
def fnExactStreamOkRow : OpenClaim := { program := "ytjjfjeoajhdlcaa", sum := "30b8fa1f622b3c5894a9896fbf8a3d9658ee2ef83061a6456af5e1c74c1729ef", func := "loop.example/g00129/laws.FnExactStreamOk", spec := "fnExactStreamOk", apart := false }
def FnExactStreamOkSaid : Prop := fnExactStreamOkRow.holds Try.pinned (OpenSpec.ofChange fnExactStreamOkSpec)

/-- ITS FALSE NEIGHBOUR: 'it returns false'. Refute it at one input. -/
def fnExactStreamOkWrong : ChangeSpec := { name := "fnExactStreamOk", fn := fun _ => fun
  | [d] => { results := [.lit (.bool false)], args := [d] }
  | _ => none }
def FnExactStreamOkWrongFalsely : Prop := fnExactStreamOkRow.holds Try.pinned (OpenSpec.ofChange fnExactStreamOkWrong)

/-- 'laws.FnExactAsciiOk': WHATEVER THE INPUT: true; the input reads as it did. -/
def fnExactAsciiOkSpec : ChangeSpec := { name := "fnExactAsciiOk", fn := fun _ => fun
  | [d] => { results := [.lit (.bool true)], args := [d] }
  | _ => none }
def fnExactAsciiOkRow : OpenClaim := { program := "ytjjfjeoajhdlcaa", sum := "30b8fa1f622b3c5894a9896fbf8a3d9658ee2ef83061a6456af5e1c74c1729ef", func := "loop.example/g00129/laws.FnExactAsciiOk", spec := "fnExactAsciiOk", apart := false }
def FnExactAsciiOkSaid : Prop := fnExactAsciiOkRow.holds Try.pinned (OpenSpec.ofChange fnExactAsciiOkSpec)

/-- ITS FALSE NEIGHBOUR: 'it returns false'. Refute it at one input. -/
def fnExactAsciiOkWrong : ChangeSpec := { name := "fnExactAsciiOk", fn := fun _ => fun
  | [d] => { results := [.lit (.bool false)], args := [d] }
  | _ => none }
def FnExactAsciiOkWrongFalsely : Prop := fnExactAsciiOkRow.holds Try.pinned (OpenSpec.ofChange fnExactAsciiOkWrong)

/-- 'laws.FnExactAsciiNew': WHATEVER THE INPUT: true; the input reads as it did. -/
def fnExactAsciiNewSpec : ChangeSpec := { name := "fnExactAsciiNew", fn := fun _ => fun
  | [d] => { results := [.lit (.bool true)], args := [d] }
  | _ => none }
def fnExactAsciiNewRow : OpenClaim := { program := "ytjjfjeoajhdlcaa", sum := "30b8fa1f622b3c5894a9896fbf8a3d9658ee2ef83061a6456af5e1c74c1729ef", func := "loop.example/g00129/laws.FnExactAsciiNew", spec := "fnExactAsciiNew", apart := false }
def FnExactAsciiNewSaid : Prop := fnExactAsciiNewRow.holds Try.pinned (OpenSpec.ofChange fnExactAsciiNewSpec)

/-- ITS FALSE NEIGHBOUR: 'it returns false'. Refute it at one input. -/
def fnExactAsciiNewWrong : ChangeSpec := { name := "fnExactAsciiNew", fn := fun _ => fun
  | [d] => { results := [.lit (.bool false)], args := [d] }
  | _ => none }
def FnExactAsciiNewWrongFalsely : Prop := fnExactAsciiNewRow.holds Try.pinned (OpenSpec.ofChange fnExactAsciiNewWrong)

/-- 'laws.FnExactRuleAt': WHATEVER THE INPUT: true; the input reads as it did. -/
def fnExactRuleAtSpec : ChangeSpec := { name := "fnExactRuleAt", fn := fun _ => fun
  | [d1, d2, d3, d4] => { results := [.lit (.bool true)], args := [d1, d2, d3, d4] }
  | _ => none }
def fnExactRuleAtRow : OpenClaim := { program := "ytjjfjeoajhdlcaa", sum := "30b8fa1f622b3c5894a9896fbf8a3d9658ee2ef83061a6456af5e1c74c1729ef", func := "loop.example/g00129/laws.FnExactRuleAt", spec := "fnExactRuleAt", unfollowed := true, recurses := true, apart := false }
def FnExactRuleAtSaid : Prop := fnExactRuleAtRow.holds Try.pinned (OpenSpec.ofChange fnExactRuleAtSpec)

/-- ITS FALSE NEIGHBOUR: 'it returns false'. Refute it at one input. -/
def fnExactRuleAtWrong : ChangeSpec := { name := "fnExactRuleAt", fn := fun _ => fun
  | [d1, d2, d3, d4] => { results := [.lit (.bool false)], args := [d1, d2, d3, d4] }
  | _ => none }
def FnExactRuleAtWrongFalsely : Prop := fnExactRuleAtRow.holds Try.pinned (OpenSpec.ofChange fnExactRuleAtWrong)

/-- 'laws.FnExactNextMbap': WHATEVER THE INPUT: true; the input reads as it did. -/
def fnExactNextMbapSpec : ChangeSpec := { name := "fnExactNextMbap", fn := fun _ => fun
  | [d] => { results := [.lit (.bool true)], args := [d] }
  | _ => none }
def fnExactNextMbapRow : OpenClaim := { program := "ytjjfjeoajhdlcaa", sum := "30b8fa1f622b3c5894a9896fbf8a3d9658ee2ef83061a6456af5e1c74c1729ef", func := "loop.example/g00129/laws.FnExactNextMbap", spec := "fnExactNextMbap", apart := false }
def FnExactNextMbapSaid : Prop := fnExactNextMbapRow.holds Try.pinned (OpenSpec.ofChange fnExactNextMbapSpec)

/-- ITS FALSE NEIGHBOUR: 'it returns false'. Refute it at one input. -/
def fnExactNextMbapWrong : ChangeSpec := { name := "fnExactNextMbap", fn := fun _ => fun
  | [d] => { results := [.lit (.bool false)], args := [d] }
  | _ => none }
def FnExactNextMbapWrongFalsely : Prop := fnExactNextMbapRow.holds Try.pinned (OpenSpec.ofChange fnExactNextMbapWrong)

/-- 'laws.FnExactPutMbap': WHATEVER THE INPUT: true; the input reads as it did. -/
def fnExactPutMbapSpec : ChangeSpec := { name := "fnExactPutMbap", fn := fun _ => fun
  | [d1, d2, d3] => { results := [.lit (.bool true)], args := [d1, d2, d3] }
  | _ => none }
def fnExactPutMbapRow : OpenClaim := { program := "ytjjfjeoajhdlcaa", sum := "30b8fa1f622b3c5894a9896fbf8a3d9658ee2ef83061a6456af5e1c74c1729ef", func := "loop.example/g00129/laws.FnExactPutMbap", spec := "fnExactPutMbap", apart := false }
def FnExactPutMbapSaid : Prop := fnExactPutMbapRow.holds Try.pinned (OpenSpec.ofChange fnExactPutMbapSpec)

/-- ITS FALSE NEIGHBOUR: 'it returns false'. Refute it at one input. -/
def fnExactPutMbapWrong : ChangeSpec := { name := "fnExactPutMbap", fn := fun _ => fun
  | [d1, d2, d3] => { results := [.lit (.bool false)], args := [d1, d2, d3] }
  | _ => none }
def FnExactPutMbapWrongFalsely : Prop := fnExactPutMbapRow.holds Try.pinned (OpenSpec.ofChange fnExactPutMbapWrong)

/-- 'laws.FnExactGetRtu': WHATEVER THE INPUT: true; the input reads as it did. -/
def fnExactGetRtuSpec : ChangeSpec := { name := "fnExactGetRtu", fn := fun _ => fun
  | [d] => { results := [.lit (.bool true)], args := [d] }
  | _ => none }
def fnExactGetRtuRow : OpenClaim := { program := "ytjjfjeoajhdlcaa", sum := "30b8fa1f622b3c5894a9896fbf8a3d9658ee2ef83061a6456af5e1c74c1729ef", func := "loop.example/g00129/laws.FnExactGetRtu", spec := "fnExactGetRtu", apart := false }
def FnExactGetRtuSaid : Prop := fnExactGetRtuRow.holds Try.pinned (OpenSpec.ofChange fnExactGetRtuSpec)

/-- ITS FALSE NEIGHBOUR: 'it returns false'. Refute it at one input. -/
def fnExactGetRtuWrong : ChangeSpec := { name := "fnExactGetRtu", fn := fun _ => fun
  | [d] => { results := [.lit (.bool false)], args := [d] }
  | _ => none }
def FnExactGetRtuWrongFalsely : Prop := fnExactGetRtuRow.holds Try.pinned (OpenSpec.ofChange fnExactGetRtuWrong)

/-- 'laws.FnExactPutRtu': WHATEVER THE INPUT: true; the input reads as it did. -/
def fnExactPutRtuSpec : ChangeSpec := { name := "fnExactPutRtu", fn := fun _ => fun
  | [d1, d2] => { results := [.lit (.bool true)], args := [d1, d2] }
  | _ => none }
def fnExactPutRtuRow : OpenClaim := { program := "ytjjfjeoajhdlcaa", sum := "30b8fa1f622b3c5894a9896fbf8a3d9658ee2ef83061a6456af5e1c74c1729ef", func := "loop.example/g00129/laws.FnExactPutRtu", spec := "fnExactPutRtu", apart := false }
def FnExactPutRtuSaid : Prop := fnExactPutRtuRow.holds Try.pinned (OpenSpec.ofChange fnExactPutRtuSpec)

/-- ITS FALSE NEIGHBOUR: 'it returns false'. Refute it at one input. -/
def fnExactPutRtuWrong : ChangeSpec := { name := "fnExactPutRtu", fn := fun _ => fun
  | [d1, d2] => { results := [.lit (.bool false)], args := [d1, d2] }
  | _ => none }
def FnExactPutRtuWrongFalsely : Prop := fnExactPutRtuRow.holds Try.pinned (OpenSpec.ofChange fnExactPutRtuWrong)

/-- 'laws.FnExactPutAscii': WHATEVER THE INPUT: true; the input reads as it did. -/
def fnExactPutAsciiSpec : ChangeSpec := { name := "fnExactPutAscii", fn := fun _ => fun
  | [d1, d2] => { results := [.lit (.bool true)], args := [d1, d2] }
  | _ => none }
def fnExactPutAsciiRow : OpenClaim := { program := "ytjjfjeoajhdlcaa", sum := "30b8fa1f622b3c5894a9896fbf8a3d9658ee2ef83061a6456af5e1c74c1729ef", func := "loop.example/g00129/laws.FnExactPutAscii", spec := "fnExactPutAscii", apart := false }
def FnExactPutAsciiSaid : Prop := fnExactPutAsciiRow.holds Try.pinned (OpenSpec.ofChange fnExactPutAsciiSpec)

/-- ITS FALSE NEIGHBOUR: 'it returns false'. Refute it at one input. -/
def fnExactPutAsciiWrong : ChangeSpec := { name := "fnExactPutAscii", fn := fun _ => fun
  | [d1, d2] => { results := [.lit (.bool false)], args := [d1, d2] }
  | _ => none }
def FnExactPutAsciiWrongFalsely : Prop := fnExactPutAsciiRow.holds Try.pinned (OpenSpec.ofChange fnExactPutAsciiWrong)

/-- 'laws.FnExactRulesOk': WHATEVER THE INPUT: true; the input reads as it did. -/
def fnExactRulesOkSpec : ChangeSpec := { name := "fnExactRulesOk", fn := fun _ => fun
  | [d] => { results := [.lit (.bool true)], args := [d] }
  | _ => none }
def fnExactRulesOkRow : OpenClaim := { program := "ytjjfjeoajhdlcaa", sum := "30b8fa1f622b3c5894a9896fbf8a3d9658ee2ef83061a6456af5e1c74c1729ef", func := "loop.example/g00129/laws.FnExactRulesOk", spec := "fnExactRulesOk", unfollowed := true, recurses := true, apart := false }
def FnExactRulesOkSaid : Prop := fnExactRulesOkRow.holds Try.pinned (OpenSpec.ofChange fnExactRulesOkSpec)

/-- ITS FALSE NEIGHBOUR: 'it returns false'. Refute it at one input. -/
def fnExactRulesOkWrong : ChangeSpec := { name := "fnExactRulesOk", fn := fun _ => fun
  | [d] => { results := [.lit (.bool false)], args := [d] }
  | _ => none }
def FnExactRulesOkWrongFalsely : Prop := fnExactRulesOkRow.holds Try.pinned (OpenSpec.ofChange fnExactRulesOkWrong)

/-- 'laws.FnExactConfigOk': WHATEVER THE INPUT: true; the input reads as it did. -/
def fnExactConfigOkSpec : ChangeSpec := { name := "fnExactConfigOk", fn := fun _ => fun
  | [d] => { results := [.lit (.bool true)], args := [d] }
  | _ => none }
def fnExactConfigOkRow : OpenClaim := { program := "ytjjfjeoajhdlcaa", sum := "30b8fa1f622b3c5894a9896fbf8a3d9658ee2ef83061a6456af5e1c74c1729ef", func := "loop.example/g00129/laws.FnExactConfigOk", spec := "fnExactConfigOk", unfollowed := true, recurses := true, apart := false }
def FnExactConfigOkSaid : Prop := fnExactConfigOkRow.holds Try.pinned (OpenSpec.ofChange fnExactConfigOkSpec)

/-- ITS FALSE NEIGHBOUR: 'it returns false'. Refute it at one input. -/
def fnExactConfigOkWrong : ChangeSpec := { name := "fnExactConfigOk", fn := fun _ => fun
  | [d] => { results := [.lit (.bool false)], args := [d] }
  | _ => none }
def FnExactConfigOkWrongFalsely : Prop := fnExactConfigOkRow.holds Try.pinned (OpenSpec.ofChange fnExactConfigOkWrong)

/-- 'laws.FnExactGetAscii': WHATEVER THE INPUT: true; the input reads as it did. -/
def fnExactGetAsciiSpec : ChangeSpec := { name := "fnExactGetAscii", fn := fun _ => fun
  | [d] => { results := [.lit (.bool true)], args := [d] }
  | _ => none }
def fnExactGetAsciiRow : OpenClaim := { program := "ytjjfjeoajhdlcaa", sum := "30b8fa1f622b3c5894a9896fbf8a3d9658ee2ef83061a6456af5e1c74c1729ef", func := "loop.example/g00129/laws.FnExactGetAscii", spec := "fnExactGetAscii", apart := false }
def FnExactGetAsciiSaid : Prop := fnExactGetAsciiRow.holds Try.pinned (OpenSpec.ofChange fnExactGetAsciiSpec)

/-- ITS FALSE NEIGHBOUR: 'it returns false'. Refute it at one input. -/
def fnExactGetAsciiWrong : ChangeSpec := { name := "fnExactGetAscii", fn := fun _ => fun
  | [d] => { results := [.lit (.bool false)], args := [d] }
  | _ => none }
def FnExactGetAsciiWrongFalsely : Prop := fnExactGetAsciiRow.holds Try.pinned (OpenSpec.ofChange fnExactGetAsciiWrong)

/- THE SECOND FORM. 'bulk': how many values and letters a reading holds, each counted each time it is reached (what is shared counts as often as it is met; a slice's spare places count too). A statement '..UptoSaid' is the law's where the arguments, and the package variables that the reading takes, are together of bulk at most 1048576: NARROWER than '..Said'. Prove '..Said' where nothing that the law and all that it calls make is longer than what came in: it says more and counts as full. Else prove '..UptoSaid'. A law counts once. -/
mutual
def uptoBulk {H : Type} : DataW H → Nat
  | .lit (.string bytes) => bytes.length + 1
  | .lit _ => 1
  | .nil => 1
  | .ptr d => uptoBulk d + 1
  | .slice elems spare => uptoBulkAll elems + uptoBulkAll spare + 1
  | .agg parts => uptoBulkAll parts + 1
  | .iface _ d => uptoBulk d + 1
  | .map entries => uptoBulkEntries entries + 1
  | .held _ => 1
def uptoBulkAll {H : Type} : List (DataW H) → Nat
  | [] => 0
  | d :: r => uptoBulk d + uptoBulkAll r
def uptoBulkEntries {H : Type} : List (Lit × DataW H) → Nat
  | [] => 0
  | x :: r => uptoBulkEntry x + uptoBulkEntries r
def uptoBulkEntry {H : Type} : Lit × DataW H → Nat
  | (.string bytes, d) => bytes.length + uptoBulk d + 1
  | (_, d) => uptoBulk d + 1
 end
def uptoSmall : (H : Type) → List (DataW H) → Bool := fun _ ds => decide (uptoBulkAll ds ≤ 1048576)
def OpenSpec.upto (s : _root_.Go.ChangeSpec) : _root_.Go.OpenSpec := { _root_.Go.OpenSpec.ofChange s with cond := some uptoSmall }

/-- 'laws.FnExactStreamOk', WHERE WHAT IT READS IS OF BULK AT MOST 1048576: true; the input reads as it did. -/
def fnExactStreamOkUptoRow : OpenClaim := { program := "ytjjfjeoajhdlcaa", sum := "30b8fa1f622b3c5894a9896fbf8a3d9658ee2ef83061a6456af5e1c74c1729ef", func := "loop.example/g00129/laws.FnExactStreamOk", spec := "fnExactStreamOk", apart := false, narrowed := true }
def FnExactStreamOkUptoSaid : Prop := fnExactStreamOkUptoRow.holds Try.pinned (OpenSpec.upto fnExactStreamOkSpec)

/-- 'laws.FnExactAsciiOk', WHERE WHAT IT READS IS OF BULK AT MOST 1048576: true; the input reads as it did. -/
def fnExactAsciiOkUptoRow : OpenClaim := { program := "ytjjfjeoajhdlcaa", sum := "30b8fa1f622b3c5894a9896fbf8a3d9658ee2ef83061a6456af5e1c74c1729ef", func := "loop.example/g00129/laws.FnExactAsciiOk", spec := "fnExactAsciiOk", apart := false, narrowed := true }
def FnExactAsciiOkUptoSaid : Prop := fnExactAsciiOkUptoRow.holds Try.pinned (OpenSpec.upto fnExactAsciiOkSpec)

/-- 'laws.FnExactAsciiNew', WHERE WHAT IT READS IS OF BULK AT MOST 1048576: true; the input reads as it did. -/
def fnExactAsciiNewUptoRow : OpenClaim := { program := "ytjjfjeoajhdlcaa", sum := "30b8fa1f622b3c5894a9896fbf8a3d9658ee2ef83061a6456af5e1c74c1729ef", func := "loop.example/g00129/laws.FnExactAsciiNew", spec := "fnExactAsciiNew", apart := false, narrowed := true }
def FnExactAsciiNewUptoSaid : Prop := fnExactAsciiNewUptoRow.holds Try.pinned (OpenSpec.upto fnExactAsciiNewSpec)

/-- 'laws.FnExactRuleAt', WHERE WHAT IT READS IS OF BULK AT MOST 1048576: true; the input reads as it did. -/
def fnExactRuleAtUptoRow : OpenClaim := { program := "ytjjfjeoajhdlcaa", sum := "30b8fa1f622b3c5894a9896fbf8a3d9658ee2ef83061a6456af5e1c74c1729ef", func := "loop.example/g00129/laws.FnExactRuleAt", spec := "fnExactRuleAt", unfollowed := true, recurses := true, apart := false, narrowed := true }
def FnExactRuleAtUptoSaid : Prop := fnExactRuleAtUptoRow.holds Try.pinned (OpenSpec.upto fnExactRuleAtSpec)

/-- 'laws.FnExactNextMbap', WHERE WHAT IT READS IS OF BULK AT MOST 1048576: true; the input reads as it did. -/
def fnExactNextMbapUptoRow : OpenClaim := { program := "ytjjfjeoajhdlcaa", sum := "30b8fa1f622b3c5894a9896fbf8a3d9658ee2ef83061a6456af5e1c74c1729ef", func := "loop.example/g00129/laws.FnExactNextMbap", spec := "fnExactNextMbap", apart := false, narrowed := true }
def FnExactNextMbapUptoSaid : Prop := fnExactNextMbapUptoRow.holds Try.pinned (OpenSpec.upto fnExactNextMbapSpec)

/-- 'laws.FnExactPutMbap', WHERE WHAT IT READS IS OF BULK AT MOST 1048576: true; the input reads as it did. -/
def fnExactPutMbapUptoRow : OpenClaim := { program := "ytjjfjeoajhdlcaa", sum := "30b8fa1f622b3c5894a9896fbf8a3d9658ee2ef83061a6456af5e1c74c1729ef", func := "loop.example/g00129/laws.FnExactPutMbap", spec := "fnExactPutMbap", apart := false, narrowed := true }
def FnExactPutMbapUptoSaid : Prop := fnExactPutMbapUptoRow.holds Try.pinned (OpenSpec.upto fnExactPutMbapSpec)

/-- 'laws.FnExactGetRtu', WHERE WHAT IT READS IS OF BULK AT MOST 1048576: true; the input reads as it did. -/
def fnExactGetRtuUptoRow : OpenClaim := { program := "ytjjfjeoajhdlcaa", sum := "30b8fa1f622b3c5894a9896fbf8a3d9658ee2ef83061a6456af5e1c74c1729ef", func := "loop.example/g00129/laws.FnExactGetRtu", spec := "fnExactGetRtu", apart := false, narrowed := true }
def FnExactGetRtuUptoSaid : Prop := fnExactGetRtuUptoRow.holds Try.pinned (OpenSpec.upto fnExactGetRtuSpec)

/-- 'laws.FnExactPutRtu', WHERE WHAT IT READS IS OF BULK AT MOST 1048576: true; the input reads as it did. -/
def fnExactPutRtuUptoRow : OpenClaim := { program := "ytjjfjeoajhdlcaa", sum := "30b8fa1f622b3c5894a9896fbf8a3d9658ee2ef83061a6456af5e1c74c1729ef", func := "loop.example/g00129/laws.FnExactPutRtu", spec := "fnExactPutRtu", apart := false, narrowed := true }
def FnExactPutRtuUptoSaid : Prop := fnExactPutRtuUptoRow.holds Try.pinned (OpenSpec.upto fnExactPutRtuSpec)

/-- 'laws.FnExactPutAscii', WHERE WHAT IT READS IS OF BULK AT MOST 1048576: true; the input reads as it did. -/
def fnExactPutAsciiUptoRow : OpenClaim := { program := "ytjjfjeoajhdlcaa", sum := "30b8fa1f622b3c5894a9896fbf8a3d9658ee2ef83061a6456af5e1c74c1729ef", func := "loop.example/g00129/laws.FnExactPutAscii", spec := "fnExactPutAscii", apart := false, narrowed := true }
def FnExactPutAsciiUptoSaid : Prop := fnExactPutAsciiUptoRow.holds Try.pinned (OpenSpec.upto fnExactPutAsciiSpec)

/-- 'laws.FnExactRulesOk', WHERE WHAT IT READS IS OF BULK AT MOST 1048576: true; the input reads as it did. -/
def fnExactRulesOkUptoRow : OpenClaim := { program := "ytjjfjeoajhdlcaa", sum := "30b8fa1f622b3c5894a9896fbf8a3d9658ee2ef83061a6456af5e1c74c1729ef", func := "loop.example/g00129/laws.FnExactRulesOk", spec := "fnExactRulesOk", unfollowed := true, recurses := true, apart := false, narrowed := true }
def FnExactRulesOkUptoSaid : Prop := fnExactRulesOkUptoRow.holds Try.pinned (OpenSpec.upto fnExactRulesOkSpec)

/-- 'laws.FnExactConfigOk', WHERE WHAT IT READS IS OF BULK AT MOST 1048576: true; the input reads as it did. -/
def fnExactConfigOkUptoRow : OpenClaim := { program := "ytjjfjeoajhdlcaa", sum := "30b8fa1f622b3c5894a9896fbf8a3d9658ee2ef83061a6456af5e1c74c1729ef", func := "loop.example/g00129/laws.FnExactConfigOk", spec := "fnExactConfigOk", unfollowed := true, recurses := true, apart := false, narrowed := true }
def FnExactConfigOkUptoSaid : Prop := fnExactConfigOkUptoRow.holds Try.pinned (OpenSpec.upto fnExactConfigOkSpec)

/-- 'laws.FnExactGetAscii', WHERE WHAT IT READS IS OF BULK AT MOST 1048576: true; the input reads as it did. -/
def fnExactGetAsciiUptoRow : OpenClaim := { program := "ytjjfjeoajhdlcaa", sum := "30b8fa1f622b3c5894a9896fbf8a3d9658ee2ef83061a6456af5e1c74c1729ef", func := "loop.example/g00129/laws.FnExactGetAscii", spec := "fnExactGetAscii", apart := false, narrowed := true }
def FnExactGetAsciiUptoSaid : Prop := fnExactGetAsciiUptoRow.holds Try.pinned (OpenSpec.upto fnExactGetAsciiSpec)

end Rows
end Go.Proofs.Ytjjfjeoajhdlcaa
