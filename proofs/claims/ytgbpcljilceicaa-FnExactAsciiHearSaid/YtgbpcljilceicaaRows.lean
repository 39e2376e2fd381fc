/-
  No cell of these rows narrows 'for every input' (looked for: loops, veiled, ifaces, maps, wideKeys, modest, calm, conditions, laid).
  DERIVED. THE GIVEN ROWS OF THIS SEAT. 8 by the template 'for every input the law returns true; each argument reads behind the call as it read before'; 0 by the template 'total and deterministic' (their statements: YtgbpcljilceicaaTotals.lean).
  GIVEN WITH THE SEED: the statements are not yours to turn. If you find one false, say at which input.
  Laid BY PROGRAM, IN A SANDBOX (cutbox-rows.mjs): the forced cells as the released guide's own fill.sh prints them over the translation 6b1211427a3da2ec… (all of the seat's roots in one cut). By AI agents, Wed Nov 11 2026. No macro, syntax, notation, axiom, sorry.
-/
import Derived.Test.YtgbpcljilceicaaChecked
import GoSem.Claim
import GoSem.ClaimJoined
import GoSem.ClaimMapViews
import Derived.JoinedTies
import Derived.KernelRfl
namespace Go.Proofs.Ytgbpcljilceicaa
/- THE CELL 'sum', in the pinned program and in every row, IS THE sha256 OF THE DUMP (.gsa) THAT YtgbpcljilceicaaProg.lean LOADS. Nothing in Lean hashes anything: it is a label: what it is worth is what the hold of that sum in a sandbox is worth. -/
noncomputable def Try.pinned : Pinned := { name := "ytgbpcljilceicaa", sum := "6b1211427a3da2ec64680136d4c2cc262d7472dba471fe5e1050ffe7067047e3", checked := Try.checked }
namespace Rows
def none {H : Type} : Left H := { results := [], args := [] }

/-- 'laws.FnExactPortOk': WHATEVER THE INPUT: true; the input reads as it did. -/
def fnExactPortOkSpec : ChangeSpec := { name := "fnExactPortOk", fn := fun _ => fun
  | [d] => { results := [.lit (.bool true)], args := [d] }
  | _ => none }
def fnExactPortOkRow : OpenClaim := { program := "ytgbpcljilceicaa", sum := "6b1211427a3da2ec64680136d4c2cc262d7472dba471fe5e1050ffe7067047e3", func := "loop.example/g00129/laws.FnExactPortOk", spec := "fnExactPortOk", apart := false }
def FnExactPortOkSaid : Prop := fnExactPortOkRow.holds Try.pinned (OpenSpec.ofChange fnExactPortOkSpec)

/-- ITS FALSE NEIGHBOUR: 'it returns false'. Refute it at one input. -/
def fnExactPortOkWrong : ChangeSpec := { name := "fnExactPortOk", fn := fun _ => fun
  | [d] => { results := [.lit (.bool false)], args := [d] }
  | _ => none }
def FnExactPortOkWrongFalsely : Prop := fnExactPortOkRow.holds Try.pinned (OpenSpec.ofChange fnExactPortOkWrong)

/-- 'laws.FnExactPortNew': WHATEVER THE INPUT: true; the input reads as it did. -/
def fnExactPortNewSpec : ChangeSpec := { name := "fnExactPortNew", fn := fun _ => fun
  | [d1, d2] => { results := [.lit (.bool true)], args := [d1, d2] }
  | _ => none }
def fnExactPortNewRow : OpenClaim := { program := "ytgbpcljilceicaa", sum := "6b1211427a3da2ec64680136d4c2cc262d7472dba471fe5e1050ffe7067047e3", func := "loop.example/g00129/laws.FnExactPortNew", spec := "fnExactPortNew", apart := false }
def FnExactPortNewSaid : Prop := fnExactPortNewRow.holds Try.pinned (OpenSpec.ofChange fnExactPortNewSpec)

/-- ITS FALSE NEIGHBOUR: 'it returns false'. Refute it at one input. -/
def fnExactPortNewWrong : ChangeSpec := { name := "fnExactPortNew", fn := fun _ => fun
  | [d1, d2] => { results := [.lit (.bool false)], args := [d1, d2] }
  | _ => none }
def FnExactPortNewWrongFalsely : Prop := fnExactPortNewRow.holds Try.pinned (OpenSpec.ofChange fnExactPortNewWrong)

/-- 'laws.FnExactStreamHear': WHATEVER THE INPUT: true; the input reads as it did. -/
def fnExactStreamHearSpec : ChangeSpec := { name := "fnExactStreamHear", fn := fun _ => fun
  | [d1, d2] => { results := [.lit (.bool true)], args := [d1, d2] }
  | _ => none }
def fnExactStreamHearRow : OpenClaim := { program := "ytgbpcljilceicaa", sum := "6b1211427a3da2ec64680136d4c2cc262d7472dba471fe5e1050ffe7067047e3", func := "loop.example/g00129/laws.FnExactStreamHear", spec := "fnExactStreamHear", apart := false }
def FnExactStreamHearSaid : Prop := fnExactStreamHearRow.holds Try.pinned (OpenSpec.ofChange fnExactStreamHearSpec)

/-- ITS FALSE NEIGHBOUR: 'it returns false'. Refute it at one input. -/
def fnExactStreamHearWrong : ChangeSpec := { name := "fnExactStreamHear", fn := fun _ => fun
  | [d1, d2] => { results := [.lit (.bool false)], args := [d1, d2] }
  | _ => none }
def FnExactStreamHearWrongFalsely : Prop := fnExactStreamHearRow.holds Try.pinned (OpenSpec.ofChange fnExactStreamHearWrong)

/-- 'laws.FnExactLineNew': WHATEVER THE INPUT: true; the input reads as it did. -/
def fnExactLineNewSpec : ChangeSpec := { name := "fnExactLineNew", fn := fun _ => fun
  | [d1, d2] => { results := [.lit (.bool true)], args := [d1, d2] }
  | _ => none }
def fnExactLineNewRow : OpenClaim := { program := "ytgbpcljilceicaa", sum := "6b1211427a3da2ec64680136d4c2cc262d7472dba471fe5e1050ffe7067047e3", func := "loop.example/g00129/laws.FnExactLineNew", spec := "fnExactLineNew", apart := false }
def FnExactLineNewSaid : Prop := fnExactLineNewRow.holds Try.pinned (OpenSpec.ofChange fnExactLineNewSpec)

/-- ITS FALSE NEIGHBOUR: 'it returns false'. Refute it at one input. -/
def fnExactLineNewWrong : ChangeSpec := { name := "fnExactLineNew", fn := fun _ => fun
  | [d1, d2] => { results := [.lit (.bool false)], args := [d1, d2] }
  | _ => none }
def FnExactLineNewWrongFalsely : Prop := fnExactLineNewRow.holds Try.pinned (OpenSpec.ofChange fnExactLineNewWrong)

/-- 'laws.FnExactRtuWait': WHATEVER THE INPUT: true; the input reads as it did. -/
def fnExactRtuWaitSpec : ChangeSpec := { name := "fnExactRtuWait", fn := fun _ => fun
  | [d1, d2] => { results := [.lit (.bool true)], args := [d1, d2] }
  | _ => none }
def fnExactRtuWaitRow : OpenClaim := { program := "ytgbpcljilceicaa", sum := "6b1211427a3da2ec64680136d4c2cc262d7472dba471fe5e1050ffe7067047e3", func := "loop.example/g00129/laws.FnExactRtuWait", spec := "fnExactRtuWait", apart := false }
def FnExactRtuWaitSaid : Prop := fnExactRtuWaitRow.holds Try.pinned (OpenSpec.ofChange fnExactRtuWaitSpec)

/-- ITS FALSE NEIGHBOUR: 'it returns false'. Refute it at one input. -/
def fnExactRtuWaitWrong : ChangeSpec := { name := "fnExactRtuWait", fn := fun _ => fun
  | [d1, d2] => { results := [.lit (.bool false)], args := [d1, d2] }
  | _ => none }
def FnExactRtuWaitWrongFalsely : Prop := fnExactRtuWaitRow.holds Try.pinned (OpenSpec.ofChange fnExactRtuWaitWrong)

/-- 'laws.FnExactRtuHear': WHATEVER THE INPUT: true; the input reads as it did. -/
def fnExactRtuHearSpec : ChangeSpec := { name := "fnExactRtuHear", fn := fun _ => fun
  | [d1, d2, d3] => { results := [.lit (.bool true)], args := [d1, d2, d3] }
  | _ => none }
def fnExactRtuHearRow : OpenClaim := { program := "ytgbpcljilceicaa", sum := "6b1211427a3da2ec64680136d4c2cc262d7472dba471fe5e1050ffe7067047e3", func := "loop.example/g00129/laws.FnExactRtuHear", spec := "fnExactRtuHear", apart := false }
def FnExactRtuHearSaid : Prop := fnExactRtuHearRow.holds Try.pinned (OpenSpec.ofChange fnExactRtuHearSpec)

/-- ITS FALSE NEIGHBOUR: 'it returns false'. Refute it at one input. -/
def fnExactRtuHearWrong : ChangeSpec := { name := "fnExactRtuHear", fn := fun _ => fun
  | [d1, d2, d3] => { results := [.lit (.bool false)], args := [d1, d2, d3] }
  | _ => none }
def FnExactRtuHearWrongFalsely : Prop := fnExactRtuHearRow.holds Try.pinned (OpenSpec.ofChange fnExactRtuHearWrong)

/-- 'laws.FnExactAsciiHear': WHATEVER THE INPUT: true; the input reads as it did. -/
def fnExactAsciiHearSpec : ChangeSpec := { name := "fnExactAsciiHear", fn := fun _ => fun
  | [d1, d2, d3] => { results := [.lit (.bool true)], args := [d1, d2, d3] }
  | _ => none }
def fnExactAsciiHearRow : OpenClaim := { program := "ytgbpcljilceicaa", sum := "6b1211427a3da2ec64680136d4c2cc262d7472dba471fe5e1050ffe7067047e3", func := "loop.example/g00129/laws.FnExactAsciiHear", spec := "fnExactAsciiHear", apart := false }
def FnExactAsciiHearSaid : Prop := fnExactAsciiHearRow.holds Try.pinned (OpenSpec.ofChange fnExactAsciiHearSpec)

/-- ITS FALSE NEIGHBOUR: 'it returns false'. Refute it at one input. -/
def fnExactAsciiHearWrong : ChangeSpec := { name := "fnExactAsciiHear", fn := fun _ => fun
  | [d1, d2, d3] => { results := [.lit (.bool false)], args := [d1, d2, d3] }
  | _ => none }
def FnExactAsciiHearWrongFalsely : Prop := fnExactAsciiHearRow.holds Try.pinned (OpenSpec.ofChange fnExactAsciiHearWrong)

/-- 'laws.FnExactLineOk': WHATEVER THE INPUT: true; the input reads as it did. -/
def fnExactLineOkSpec : ChangeSpec := { name := "fnExactLineOk", fn := fun _ => fun
  | [d] => { results := [.lit (.bool true)], args := [d] }
  | _ => none }
def fnExactLineOkRow : OpenClaim := { program := "ytgbpcljilceicaa", sum := "6b1211427a3da2ec64680136d4c2cc262d7472dba471fe5e1050ffe7067047e3", func := "loop.example/g00129/laws.FnExactLineOk", spec := "fnExactLineOk", unfollowed := true, recurses := true, apart := false }
def FnExactLineOkSaid : Prop := fnExactLineOkRow.holds Try.pinned (OpenSpec.ofChange fnExactLineOkSpec)

/-- ITS FALSE NEIGHBOUR: 'it returns false'. Refute it at one input. -/
def fnExactLineOkWrong : ChangeSpec := { name := "fnExactLineOk", fn := fun _ => fun
  | [d] => { results := [.lit (.bool false)], args := [d] }
  | _ => none }
def FnExactLineOkWrongFalsely : Prop := fnExactLineOkRow.holds Try.pinned (OpenSpec.ofChange fnExactLineOkWrong)

/- THE SECOND FORM. 'bulk': how many values and letters a reading holds, each counted each time it is reached (what is shared counts as often as it is met; a slice's spare places count too). A statement '..UptoSaid' is the law's where the arguments, and the package variables that the reading takes, are together of bulk at most 1048576: NARROWER than '..Said'. Prove '..Said' where nothing that the law and all that it calls make is longer than what came in: it says more and counts as full. Else prove '..UptoSaid'. A law counts once. -/
mutual
def uptoBulk {H : Type} : DataW H → Nat
  | .lit (.string bytes) => bytes.length + 1
  | .lit _ => 1
  | .nil => 1
  | .ptr d => uptoBulk d + 1
  | .slice elems spare => uptoBulkAll elems + uptoBulkAll spare + 1
  | .agg parts => uptoBulkAll parts + 1
  | .iface _ d => uptoBulk d + 1
  | .map entries => uptoBulkEntries entries + 1
  | .held _ => 1
def uptoBulkAll {H : Type} : List (DataW H) → Nat
  | [] => 0
  | d :: r => uptoBulk d + uptoBulkAll r
def uptoBulkEntries {H : Type} : List (Lit × DataW H) → Nat
  | [] => 0
  | x :: r => uptoBulkEntry x + uptoBulkEntries r
def uptoBulkEntry {H : Type} : Lit × DataW H → Nat
  | (.string bytes, d) => bytes.length + uptoBulk d + 1
  | (_, d) => uptoBulk d + 1
 end
def uptoSmall : (H : Type) → List (DataW H) → Bool := fun _ ds => decide (uptoBulkAll ds ≤ 1048576)
def OpenSpec.upto (s : _root_.Go.ChangeSpec) : _root_.Go.OpenSpec := { _root_.Go.OpenSpec.ofChange s with cond := some uptoSmall }

/-- 'laws.FnExactPortOk', WHERE WHAT IT READS IS OF BULK AT MOST 1048576: true; the input reads as it did. -/
def fnExactPortOkUptoRow : OpenClaim := { program := "ytgbpcljilceicaa", sum := "6b1211427a3da2ec64680136d4c2cc262d7472dba471fe5e1050ffe7067047e3", func := "loop.example/g00129/laws.FnExactPortOk", spec := "fnExactPortOk", apart := false, narrowed := true }
def FnExactPortOkUptoSaid : Prop := fnExactPortOkUptoRow.holds Try.pinned (OpenSpec.upto fnExactPortOkSpec)

/-- 'laws.FnExactPortNew', WHERE WHAT IT READS IS OF BULK AT MOST 1048576: true; the input reads as it did. -/
def fnExactPortNewUptoRow : OpenClaim := { program := "ytgbpcljilceicaa", sum := "6b1211427a3da2ec64680136d4c2cc262d7472dba471fe5e1050ffe7067047e3", func := "loop.example/g00129/laws.FnExactPortNew", spec := "fnExactPortNew", apart := false, narrowed := true }
def FnExactPortNewUptoSaid : Prop := fnExactPortNewUptoRow.holds Try.pinned (OpenSpec.upto fnExactPortNewSpec)

/-- 'laws.FnExactStreamHear', WHERE WHAT IT READS IS OF BULK AT MOST 1048576: true; the input reads as it did. -/
def fnExactStreamHearUptoRow : OpenClaim := { program := "ytgbpcljilceicaa", sum := "6b1211427a3da2ec64680136d4c2cc262d7472dba471fe5e1050ffe7067047e3", func := "loop.example/g00129/laws.FnExactStreamHear", spec := "fnExactStreamHear", apart := false, narrowed := true }
def FnExactStreamHearUptoSaid : Prop := fnExactStreamHearUptoRow.holds Try.pinned (OpenSpec.upto fnExactStreamHearSpec)

/-- 'laws.FnExactLineNew', WHERE WHAT IT READS IS OF BULK AT MOST 1048576: true; the input reads as it did. -/
def fnExactLineNewUptoRow : OpenClaim := { program := "ytgbpcljilceicaa", sum := "6b1211427a3da2ec64680136d4c2cc262d7472dba471fe5e1050ffe7067047e3", func := "loop.example/g00129/laws.FnExactLineNew", spec := "fnExactLineNew", apart := false, narrowed := true }
def FnExactLineNewUptoSaid : Prop := fnExactLineNewUptoRow.holds Try.pinned (OpenSpec.upto fnExactLineNewSpec)

/-- 'laws.FnExactRtuWait', WHERE WHAT IT READS IS OF BULK AT MOST 1048576: true; the input reads as it did. -/
def fnExactRtuWaitUptoRow : OpenClaim := { program := "ytgbpcljilceicaa", sum := "6b1211427a3da2ec64680136d4c2cc262d7472dba471fe5e1050ffe7067047e3", func := "loop.example/g00129/laws.FnExactRtuWait", spec := "fnExactRtuWait", apart := false, narrowed := true }
def FnExactRtuWaitUptoSaid : Prop := fnExactRtuWaitUptoRow.holds Try.pinned (OpenSpec.upto fnExactRtuWaitSpec)

/-- 'laws.FnExactRtuHear', WHERE WHAT IT READS IS OF BULK AT MOST 1048576: true; the input reads as it did. -/
def fnExactRtuHearUptoRow : OpenClaim := { program := "ytgbpcljilceicaa", sum := "6b1211427a3da2ec64680136d4c2cc262d7472dba471fe5e1050ffe7067047e3", func := "loop.example/g00129/laws.FnExactRtuHear", spec := "fnExactRtuHear", apart := false, narrowed := true }
def FnExactRtuHearUptoSaid : Prop := fnExactRtuHearUptoRow.holds Try.pinned (OpenSpec.upto fnExactRtuHearSpec)

/-- 'laws.FnExactAsciiHear', WHERE WHAT IT READS IS OF BULK AT MOST 1048576: true; the input reads as it did. -/
def fnExactAsciiHearUptoRow : OpenClaim := { program := "ytgbpcljilceicaa", sum := "6b1211427a3da2ec64680136d4c2cc262d7472dba471fe5e1050ffe7067047e3", func := "loop.example/g00129/laws.FnExactAsciiHear", spec := "fnExactAsciiHear", apart := false, narrowed := true }
def FnExactAsciiHearUptoSaid : Prop := fnExactAsciiHearUptoRow.holds Try.pinned (OpenSpec.upto fnExactAsciiHearSpec)

/-- 'laws.FnExactLineOk', WHERE WHAT IT READS IS OF BULK AT MOST 1048576: true; the input reads as it did. -/
def fnExactLineOkUptoRow : OpenClaim := { program := "ytgbpcljilceicaa", sum := "6b1211427a3da2ec64680136d4c2cc262d7472dba471fe5e1050ffe7067047e3", func := "loop.example/g00129/laws.FnExactLineOk", spec := "fnExactLineOk", unfollowed := true, recurses := true, apart := false, narrowed := true }
def FnExactLineOkUptoSaid : Prop := fnExactLineOkUptoRow.holds Try.pinned (OpenSpec.upto fnExactLineOkSpec)

end Rows
end Go.Proofs.Ytgbpcljilceicaa
