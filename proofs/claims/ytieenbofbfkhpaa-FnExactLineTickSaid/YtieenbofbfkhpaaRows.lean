/-
  No cell of these rows narrows 'for every input' (looked for: loops, veiled, ifaces, maps, wideKeys, modest, calm, conditions, laid).
  DERIVED. THE GIVEN ROWS OF THIS SEAT. 3 by the template 'for every input the law returns true; each argument reads behind the call as it read before'; 0 by the template 'total and deterministic' (their statements: YtieenbofbfkhpaaTotals.lean).
  GIVEN WITH THE SEED: the statements are not yours to turn. If you find one false, say at which input.
  Laid BY PROGRAM, IN A SANDBOX (cutbox-rows.mjs): the forced cells as the released guide's own fill.sh prints them over the translation 4c4c53ed14da724f… (all of the seat's roots in one cut). By AI agents, Wed Nov 11 2026. No macro, syntax, notation, axiom, sorry.
-/
import Derived.Test.YtieenbofbfkhpaaChecked
import GoSem.Claim
import GoSem.ClaimJoined
import GoSem.ClaimMapViews
import Derived.JoinedTies
import Derived.KernelRfl
namespace Go.Proofs.Ytieenbofbfkhpaa
/- THE CELL 'sum', in the pinned program and in every row, IS THE sha256 OF THE DUMP (.gsa) THAT YtieenbofbfkhpaaProg.lean LOADS. Nothing in Lean hashes anything: it is a label: what it is worth is what the hold of that sum in a sandbox is worth. -/
noncomputable def Try.pinned : Pinned := { name := "ytieenbofbfkhpaa", sum := "4c4c53ed14da724f286ac75159dd26bf62899ea388c523aa21fca2322e9d0a59", checked := Try.checked }
namespace Rows
def none {H : Type} : Left H := { results := [], args := [] }

/-- 'laws.FnExactLinePut': WHATEVER THE INPUT: true; the input reads as it did. -/
def fnExactLinePutSpec : ChangeSpec := { name := "fnExactLinePut", fn := fun _ => fun
  | [d1, d2] => { results := [.lit (.bool true)], args := [d1, d2] }
  | _ => none }
def fnExactLinePutRow : OpenClaim := { program := "ytieenbofbfkhpaa", sum := "4c4c53ed14da724f286ac75159dd26bf62899ea388c523aa21fca2322e9d0a59", func := "loop.example/g00129/laws.FnExactLinePut", spec := "fnExactLinePut", unfollowed := true, recurses := true, apart := false }
def FnExactLinePutSaid : Prop := fnExactLinePutRow.holds Try.pinned (OpenSpec.ofChange fnExactLinePutSpec)

/-- ITS FALSE NEIGHBOUR: 'it returns false'. Refute it at one input. -/
def fnExactLinePutWrong : ChangeSpec := { name := "fnExactLinePut", fn := fun _ => fun
  | [d1, d2] => { results := [.lit (.bool false)], args := [d1, d2] }
  | _ => none }
def FnExactLinePutWrongFalsely : Prop := fnExactLinePutRow.holds Try.pinned (OpenSpec.ofChange fnExactLinePutWrong)

/-- 'laws.FnExactLineHear': WHATEVER THE INPUT: true; the input reads as it did. -/
def fnExactLineHearSpec : ChangeSpec := { name := "fnExactLineHear", fn := fun _ => fun
  | [d1, d2, d3, d4] => { results := [.lit (.bool true)], args := [d1, d2, d3, d4] }
  | _ => none }
def fnExactLineHearRow : OpenClaim := { program := "ytieenbofbfkhpaa", sum := "4c4c53ed14da724f286ac75159dd26bf62899ea388c523aa21fca2322e9d0a59", func := "loop.example/g00129/laws.FnExactLineHear", spec := "fnExactLineHear", unfollowed := true, recurses := true, apart := false }
def FnExactLineHearSaid : Prop := fnExactLineHearRow.holds Try.pinned (OpenSpec.ofChange fnExactLineHearSpec)

/-- ITS FALSE NEIGHBOUR: 'it returns false'. Refute it at one input. -/
def fnExactLineHearWrong : ChangeSpec := { name := "fnExactLineHear", fn := fun _ => fun
  | [d1, d2, d3, d4] => { results := [.lit (.bool false)], args := [d1, d2, d3, d4] }
  | _ => none }
def FnExactLineHearWrongFalsely : Prop := fnExactLineHearRow.holds Try.pinned (OpenSpec.ofChange fnExactLineHearWrong)

/-- 'laws.FnExactLineTick': WHATEVER THE INPUT: true; the input reads as it did. -/
def fnExactLineTickSpec : ChangeSpec := { name := "fnExactLineTick", fn := fun _ => fun
  | [d1, d2] => { results := [.lit (.bool true)], args := [d1, d2] }
  | _ => none }
def fnExactLineTickRow : OpenClaim := { program := "ytieenbofbfkhpaa", sum := "4c4c53ed14da724f286ac75159dd26bf62899ea388c523aa21fca2322e9d0a59", func := "loop.example/g00129/laws.FnExactLineTick", spec := "fnExactLineTick", unfollowed := true, recurses := true, apart := false }
def FnExactLineTickSaid : Prop := fnExactLineTickRow.holds Try.pinned (OpenSpec.ofChange fnExactLineTickSpec)

/-- ITS FALSE NEIGHBOUR: 'it returns false'. Refute it at one input. -/
def fnExactLineTickWrong : ChangeSpec := { name := "fnExactLineTick", fn := fun _ => fun
  | [d1, d2] => { results := [.lit (.bool false)], args := [d1, d2] }
  | _ => none }
def FnExactLineTickWrongFalsely : Prop := fnExactLineTickRow.holds Try.pinned (OpenSpec.ofChange fnExactLineTickWrong)

/- THE SECOND FORM. 'bulk': how many values and letters a reading holds, each counted each time it is reached (what is shared counts as often as it is met; a slice's spare places count too). A statement '..UptoSaid' is the law's where the arguments, and the package variables that the reading takes, are together of bulk at most 1048576: NARROWER than '..Said'. Prove '..Said' where nothing that the law and all that it calls make is longer than what came in: it says more and counts as full. Else prove '..UptoSaid'. A law counts once. -/
mutual
def uptoBulk {H : Type} : DataW H → Nat
  | .lit (.string bytes) => bytes.length + 1
  | .lit _ => 1
  | .nil => 1
  | .ptr d => uptoBulk d + 1
  | .slice elems spare => uptoBulkAll elems + uptoBulkAll spare + 1
  | .agg parts => uptoBulkAll parts + 1
  | .iface _ d => uptoBulk d + 1
  | .map entries => uptoBulkEntries entries + 1
  | .held _ => 1
def uptoBulkAll {H : Type} : List (DataW H) → Nat
  | [] => 0
  | d :: r => uptoBulk d + uptoBulkAll r
def uptoBulkEntries {H : Type} : List (Lit × DataW H) → Nat
  | [] => 0
  | x :: r => uptoBulkEntry x + uptoBulkEntries r
def uptoBulkEntry {H : Type} : Lit × DataW H → Nat
  | (.string bytes, d) => bytes.length + uptoBulk d + 1
  | (_, d) => uptoBulk d + 1
 end
def uptoSmall : (H : Type) → List (DataW H) → Bool := fun _ ds => decide (uptoBulkAll ds ≤ 1048576)
def OpenSpec.upto (s : _root_.Go.ChangeSpec) : _root_.Go.OpenSpec := { _root_.Go.OpenSpec.ofChange s with cond := some uptoSmall }

/-- 'laws.FnExactLinePut', WHERE WHAT IT READS IS OF BULK AT MOST 1048576: true; the input reads as it did. -/
def fnExactLinePutUptoRow : OpenClaim := { program := "ytieenbofbfkhpaa", sum := "4c4c53ed14da724f286ac75159dd26bf62899ea388c523aa21fca2322e9d0a59", func := "loop.example/g00129/laws.FnExactLinePut", spec := "fnExactLinePut", unfollowed := true, recurses := true, apart := false, narrowed := true }
def FnExactLinePutUptoSaid : Prop := fnExactLinePutUptoRow.holds Try.pinned (OpenSpec.upto fnExactLinePutSpec)

/-- 'laws.FnExactLineHear', WHERE WHAT IT READS IS OF BULK AT MOST 1048576: true; the input reads as it did. -/
def fnExactLineHearUptoRow : OpenClaim := { program := "ytieenbofbfkhpaa", sum := "4c4c53ed14da724f286ac75159dd26bf62899ea388c523aa21fca2322e9d0a59", func := "loop.example/g00129/laws.FnExactLineHear", spec := "fnExactLineHear", unfollowed := true, recurses := true, apart := false, narrowed := true }
def FnExactLineHearUptoSaid : Prop := fnExactLineHearUptoRow.holds Try.pinned (OpenSpec.upto fnExactLineHearSpec)

/-- 'laws.FnExactLineTick', WHERE WHAT IT READS IS OF BULK AT MOST 1048576: true; the input reads as it did. -/
def fnExactLineTickUptoRow : OpenClaim := { program := "ytieenbofbfkhpaa", sum := "4c4c53ed14da724f286ac75159dd26bf62899ea388c523aa21fca2322e9d0a59", func := "loop.example/g00129/laws.FnExactLineTick", spec := "fnExactLineTick", unfollowed := true, recurses := true, apart := false, narrowed := true }
def FnExactLineTickUptoSaid : Prop := fnExactLineTickUptoRow.holds Try.pinned (OpenSpec.upto fnExactLineTickSpec)

end Rows
end Go.Proofs.Ytieenbofbfkhpaa
