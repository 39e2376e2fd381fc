/- The row of the law FnExactTableOpen: for every input that can be read, the call returns true and the arguments read as before. -/
import Derived.Test.YtojkaphhgldepaaRows
import Derived.Test.YtojkaphhgldepaaXOpen
import Derived.Test.YtojkaphhgldepaaViZ
import Derived.WalkKit
import Derived.ProofKit
import Derived.OpenShut
import Derived.ShutString
import Derived.ChangeOld
import Derived.Below
import Derived.SizedLaws
namespace Go.Proofs.Ytojkaphhgldepaa.fnExactTableOpen
open Go Go.Vi Go.ChangeShapes Go.WideShapes Go.ChangeAt Go.RowKit
open Go.ChangeMaps (open_string shut_string)
open Go.Proofs.Ytojkaphhgldepaa
set_option linter.unusedVariables false
set_option linter.unusedSimpArgs false
theorem own : ownKnob Try.prog.godebug = none := by kernel_rfl
theorem laidOut : laidOutB Try.prog = true := by kernel_rfl
section
variable {H : Type} {enc : TypeId × Value → H} {w : World} {base : Nat} {spare : Nat → Bool} {held : Bool}
theorem op3 {fuel : Nat} {cs : List Value} {x : DataW H × List MemPlace} (h : DataW.trod enc Try.prog w base spare held fuel 3 cs = some x) : ∃ a : Int, RepPs w (Here w) [.int .i64 a] cs ∧ (Lit.int .i64 a).wf = true := rd_int Try.underlying3 h
theorem op25 {fuel : Nat} {cs : List Value} {x : DataW H × List MemPlace} (h : DataW.trod enc Try.prog w base spare held fuel 25 cs = some x) : ∃ a : List Int, RepPs w (Here w) [intsP a] cs ∧ (∀ q0, q0 ∈ a → (Lit.int .i64 q0).wf = true) := rd_slice 0 (f := intEl) (sz := 1) Try.underlying25 (by kernel_rfl) (by decide) (fun _ => rfl) (fun _ _ _ h => op3 h) h
theorem op4 {fuel : Nat} {cs : List Value} {x : DataW H × List MemPlace} (h : DataW.trod enc Try.prog w base spare held fuel 4 cs = some x) : ∃ a : Bool, RepPs w (Here w) [.bool a] cs ∧ True := rd_bool Try.underlying4 h
theorem op26 {fuel : Nat} {cs : List Value} {x : DataW H × List MemPlace} (h : DataW.trod enc Try.prog w base spare held fuel 26 cs = some x) : ∃ a : List Bool, RepPs w (Here w) [boolsP a] cs ∧ (∀ q0, q0 ∈ a → True) := rd_slice false (f := boolEl) (sz := 1) Try.underlying26 (by kernel_rfl) (by decide) (fun _ => rfl) (fun _ _ _ h => op4 h) h
theorem op28 {fuel : Nat} {cs : List Value} {x : DataW H × List MemPlace} (h : DataW.trod enc Try.prog w base spare held fuel 28 cs = some x) : ∃ a : XReq, RepPs w (Here w) a.ps cs ∧ XReq.Ok a := by
  obtain ⟨xs, n, rfl, _, hl, hlen, hf⟩ := DataW.trod_struct Try.underlying28 h
  have hl2 : cs.length = 6 := hl.trans (by kernel_rfl)
  clear h
  have f0 := hf 0 _ rfl
  rw [List.getElem?_eq_getElem (show 0 < xs.length by rw [hlen]; decide)] at f0
  obtain ⟨a0, k0, g0⟩ := op3 (cs := (cs.drop 0).take 1) (show DataW.trod enc Try.prog w base spare held n 3 ((cs.drop 0).take 1) = some _ from by rw [show (cs.drop 0).take 1 = (cs.drop 0).take (Try.prog.cellsOf 3) from congrArg (fun z => (cs.drop 0).take z) (by kernel_rfl)]; exact f0)
  have f1 := hf 1 _ rfl
  rw [List.getElem?_eq_getElem (show 1 < xs.length by rw [hlen]; decide)] at f1
  obtain ⟨a1, k1, g1⟩ := op3 (cs := (cs.drop 1).take 1) (show DataW.trod enc Try.prog w base spare held n 3 ((cs.drop 1).take 1) = some _ from by rw [show (cs.drop 1).take 1 = (cs.drop 1).take (Try.prog.cellsOf 3) from congrArg (fun z => (cs.drop 1).take z) (by kernel_rfl)]; exact f1)
  have f2 := hf 2 _ rfl
  rw [List.getElem?_eq_getElem (show 2 < xs.length by rw [hlen]; decide)] at f2
  obtain ⟨a2, k2, g2⟩ := op3 (cs := (cs.drop 2).take 1) (show DataW.trod enc Try.prog w base spare held n 3 ((cs.drop 2).take 1) = some _ from by rw [show (cs.drop 2).take 1 = (cs.drop 2).take (Try.prog.cellsOf 3) from congrArg (fun z => (cs.drop 2).take z) (by kernel_rfl)]; exact f2)
  have f3 := hf 3 _ rfl
  rw [List.getElem?_eq_getElem (show 3 < xs.length by rw [hlen]; decide)] at f3
  obtain ⟨a3, k3, g3⟩ := op25 (cs := (cs.drop 3).take 1) (show DataW.trod enc Try.prog w base spare held n 25 ((cs.drop 3).take 1) = some _ from by rw [show (cs.drop 3).take 1 = (cs.drop 3).take (Try.prog.cellsOf 25) from congrArg (fun z => (cs.drop 3).take z) (by kernel_rfl)]; exact f3)
  have f4 := hf 4 _ rfl
  rw [List.getElem?_eq_getElem (show 4 < xs.length by rw [hlen]; decide)] at f4
  obtain ⟨a4, k4, g4⟩ := op26 (cs := (cs.drop 4).take 1) (show DataW.trod enc Try.prog w base spare held n 26 ((cs.drop 4).take 1) = some _ from by rw [show (cs.drop 4).take 1 = (cs.drop 4).take (Try.prog.cellsOf 26) from congrArg (fun z => (cs.drop 4).take z) (by kernel_rfl)]; exact f4)
  have f5 := hf 5 _ rfl
  rw [List.getElem?_eq_getElem (show 5 < xs.length by rw [hlen]; decide)] at f5
  obtain ⟨a5, k5, g5⟩ := op3 (cs := (cs.drop 5).take 1) (show DataW.trod enc Try.prog w base spare held n 3 ((cs.drop 5).take 1) = some _ from by rw [show (cs.drop 5).take 1 = (cs.drop 5).take (Try.prog.cellsOf 3) from congrArg (fun z => (cs.drop 5).take z) (by kernel_rfl)]; exact f5)
  exact ⟨⟨a0, a1, a2, a3, a4, a5⟩, (rd_more (o := 0) (s := 1) k0 (rd_more (o := 1) (s := 1) k1 (rd_more (o := 2) (s := 1) k2 (rd_more (o := 3) (s := 1) k3 (rd_more (o := 4) (s := 1) k4 (rd_last (o := 5) (s := 1) k5 hl2)))))), ⟨g0, g1, g2, g3, g4, g5⟩⟩
theorem op58 {fuel : Nat} {cs : List Value} {x : DataW H × List MemPlace} (h : DataW.trod enc Try.prog w base spare held fuel 58 cs = some x) : ∃ a : XPart, RepPs w (Here w) a.ps cs ∧ XPart.Ok a := by
  obtain ⟨xs, n, rfl, _, hl, hlen, hf⟩ := DataW.trod_struct Try.underlying58 h
  have hl2 : cs.length = 8 := hl.trans (by kernel_rfl)
  clear h
  have f0 := hf 0 _ rfl
  rw [List.getElem?_eq_getElem (show 0 < xs.length by rw [hlen]; decide)] at f0
  obtain ⟨a0, k0, g0⟩ := op3 (cs := (cs.drop 0).take 1) (show DataW.trod enc Try.prog w base spare held n 3 ((cs.drop 0).take 1) = some _ from by rw [show (cs.drop 0).take 1 = (cs.drop 0).take (Try.prog.cellsOf 3) from congrArg (fun z => (cs.drop 0).take z) (by kernel_rfl)]; exact f0)
  have f1 := hf 1 _ rfl
  rw [List.getElem?_eq_getElem (show 1 < xs.length by rw [hlen]; decide)] at f1
  obtain ⟨a1, k1, g1⟩ := op3 (cs := (cs.drop 1).take 1) (show DataW.trod enc Try.prog w base spare held n 3 ((cs.drop 1).take 1) = some _ from by rw [show (cs.drop 1).take 1 = (cs.drop 1).take (Try.prog.cellsOf 3) from congrArg (fun z => (cs.drop 1).take z) (by kernel_rfl)]; exact f1)
  have f2 := hf 2 _ rfl
  rw [List.getElem?_eq_getElem (show 2 < xs.length by rw [hlen]; decide)] at f2
  obtain ⟨a2, k2, g2⟩ := op28 (cs := (cs.drop 2).take 6) (show DataW.trod enc Try.prog w base spare held n 28 ((cs.drop 2).take 6) = some _ from by rw [show (cs.drop 2).take 6 = (cs.drop 2).take (Try.prog.cellsOf 28) from congrArg (fun z => (cs.drop 2).take z) (by kernel_rfl)]; exact f2)
  exact ⟨⟨a0, a1, a2⟩, (rd_more (o := 0) (s := 1) k0 (rd_more (o := 1) (s := 1) k1 (rd_last (o := 2) (s := 6) k2 hl2))), ⟨g0, g1, g2⟩⟩
theorem op29 {fuel : Nat} {cs : List Value} {x : DataW H × List MemPlace} (h : DataW.trod enc Try.prog w base spare held fuel 29 cs = some x) : ∃ a : List XPart, RepPs w (Here w) [XPart.sP a] cs ∧ (∀ q0, q0 ∈ a → XPart.Ok q0) := rd_slice XPart.zero (f := XPart.ps) (sz := 8) Try.underlying29 (by kernel_rfl) (by decide) (fun _ => rfl) (fun _ _ _ h => op58 h) h
theorem op111 {fuel : Nat} {cs : List Value} {x : DataW H × List MemPlace} (h : DataW.trod enc Try.prog w base spare held fuel 111 cs = some x) : ∃ a : XResp, RepPs w (Here w) a.ps cs ∧ XResp.Ok a := by
  obtain ⟨xs, n, rfl, _, hl, hlen, hf⟩ := DataW.trod_struct Try.underlying111 h
  have hl2 : cs.length = 6 := hl.trans (by kernel_rfl)
  clear h
  have f0 := hf 0 _ rfl
  rw [List.getElem?_eq_getElem (show 0 < xs.length by rw [hlen]; decide)] at f0
  obtain ⟨a0, k0, g0⟩ := op3 (cs := (cs.drop 0).take 1) (show DataW.trod enc Try.prog w base spare held n 3 ((cs.drop 0).take 1) = some _ from by rw [show (cs.drop 0).take 1 = (cs.drop 0).take (Try.prog.cellsOf 3) from congrArg (fun z => (cs.drop 0).take z) (by kernel_rfl)]; exact f0)
  have f1 := hf 1 _ rfl
  rw [List.getElem?_eq_getElem (show 1 < xs.length by rw [hlen]; decide)] at f1
  obtain ⟨a1, k1, g1⟩ := op3 (cs := (cs.drop 1).take 1) (show DataW.trod enc Try.prog w base spare held n 3 ((cs.drop 1).take 1) = some _ from by rw [show (cs.drop 1).take 1 = (cs.drop 1).take (Try.prog.cellsOf 3) from congrArg (fun z => (cs.drop 1).take z) (by kernel_rfl)]; exact f1)
  have f2 := hf 2 _ rfl
  rw [List.getElem?_eq_getElem (show 2 < xs.length by rw [hlen]; decide)] at f2
  obtain ⟨a2, k2, g2⟩ := op3 (cs := (cs.drop 2).take 1) (show DataW.trod enc Try.prog w base spare held n 3 ((cs.drop 2).take 1) = some _ from by rw [show (cs.drop 2).take 1 = (cs.drop 2).take (Try.prog.cellsOf 3) from congrArg (fun z => (cs.drop 2).take z) (by kernel_rfl)]; exact f2)
  have f3 := hf 3 _ rfl
  rw [List.getElem?_eq_getElem (show 3 < xs.length by rw [hlen]; decide)] at f3
  obtain ⟨a3, k3, g3⟩ := op3 (cs := (cs.drop 3).take 1) (show DataW.trod enc Try.prog w base spare held n 3 ((cs.drop 3).take 1) = some _ from by rw [show (cs.drop 3).take 1 = (cs.drop 3).take (Try.prog.cellsOf 3) from congrArg (fun z => (cs.drop 3).take z) (by kernel_rfl)]; exact f3)
  have f4 := hf 4 _ rfl
  rw [List.getElem?_eq_getElem (show 4 < xs.length by rw [hlen]; decide)] at f4
  obtain ⟨a4, k4, g4⟩ := op25 (cs := (cs.drop 4).take 1) (show DataW.trod enc Try.prog w base spare held n 25 ((cs.drop 4).take 1) = some _ from by rw [show (cs.drop 4).take 1 = (cs.drop 4).take (Try.prog.cellsOf 25) from congrArg (fun z => (cs.drop 4).take z) (by kernel_rfl)]; exact f4)
  have f5 := hf 5 _ rfl
  rw [List.getElem?_eq_getElem (show 5 < xs.length by rw [hlen]; decide)] at f5
  obtain ⟨a5, k5, g5⟩ := op26 (cs := (cs.drop 5).take 1) (show DataW.trod enc Try.prog w base spare held n 26 ((cs.drop 5).take 1) = some _ from by rw [show (cs.drop 5).take 1 = (cs.drop 5).take (Try.prog.cellsOf 26) from congrArg (fun z => (cs.drop 5).take z) (by kernel_rfl)]; exact f5)
  exact ⟨⟨a0, a1, a2, a3, a4, a5⟩, (rd_more (o := 0) (s := 1) k0 (rd_more (o := 1) (s := 1) k1 (rd_more (o := 2) (s := 1) k2 (rd_more (o := 3) (s := 1) k3 (rd_more (o := 4) (s := 1) k4 (rd_last (o := 5) (s := 1) k5 hl2)))))), ⟨g0, g1, g2, g3, g4, g5⟩⟩
theorem op80 {fuel : Nat} {cs : List Value} {x : DataW H × List MemPlace} (h : DataW.trod enc Try.prog w base spare held fuel 80 cs = some x) : ∃ a : List XResp, RepPs w (Here w) [XResp.sP a] cs ∧ (∀ q0, q0 ∈ a → XResp.Ok q0) := rd_slice XResp.zero (f := XResp.ps) (sz := 6) Try.underlying80 (by kernel_rfl) (by decide) (fun _ => rfl) (fun _ _ _ h => op111 h) h
theorem op82 {fuel : Nat} {cs : List Value} {x : DataW H × List MemPlace} (h : DataW.trod enc Try.prog w base spare held fuel 82 cs = some x) : ∃ a : XPend, RepPs w (Here w) a.ps cs ∧ XPend.Ok a := by
  obtain ⟨xs, n, rfl, _, hl, hlen, hf⟩ := DataW.trod_struct Try.underlying82 h
  have hl2 : cs.length = 13 := hl.trans (by kernel_rfl)
  clear h
  have f0 := hf 0 _ rfl
  rw [List.getElem?_eq_getElem (show 0 < xs.length by rw [hlen]; decide)] at f0
  obtain ⟨a0, k0, g0⟩ := op3 (cs := (cs.drop 0).take 1) (show DataW.trod enc Try.prog w base spare held n 3 ((cs.drop 0).take 1) = some _ from by rw [show (cs.drop 0).take 1 = (cs.drop 0).take (Try.prog.cellsOf 3) from congrArg (fun z => (cs.drop 0).take z) (by kernel_rfl)]; exact f0)
  have f1 := hf 1 _ rfl
  rw [List.getElem?_eq_getElem (show 1 < xs.length by rw [hlen]; decide)] at f1
  obtain ⟨a1, k1, g1⟩ := op3 (cs := (cs.drop 1).take 1) (show DataW.trod enc Try.prog w base spare held n 3 ((cs.drop 1).take 1) = some _ from by rw [show (cs.drop 1).take 1 = (cs.drop 1).take (Try.prog.cellsOf 3) from congrArg (fun z => (cs.drop 1).take z) (by kernel_rfl)]; exact f1)
  have f2 := hf 2 _ rfl
  rw [List.getElem?_eq_getElem (show 2 < xs.length by rw [hlen]; decide)] at f2
  obtain ⟨a2, k2, g2⟩ := op3 (cs := (cs.drop 2).take 1) (show DataW.trod enc Try.prog w base spare held n 3 ((cs.drop 2).take 1) = some _ from by rw [show (cs.drop 2).take 1 = (cs.drop 2).take (Try.prog.cellsOf 3) from congrArg (fun z => (cs.drop 2).take z) (by kernel_rfl)]; exact f2)
  have f3 := hf 3 _ rfl
  rw [List.getElem?_eq_getElem (show 3 < xs.length by rw [hlen]; decide)] at f3
  obtain ⟨a3, k3, g3⟩ := op3 (cs := (cs.drop 3).take 1) (show DataW.trod enc Try.prog w base spare held n 3 ((cs.drop 3).take 1) = some _ from by rw [show (cs.drop 3).take 1 = (cs.drop 3).take (Try.prog.cellsOf 3) from congrArg (fun z => (cs.drop 3).take z) (by kernel_rfl)]; exact f3)
  have f4 := hf 4 _ rfl
  rw [List.getElem?_eq_getElem (show 4 < xs.length by rw [hlen]; decide)] at f4
  obtain ⟨a4, k4, g4⟩ := op28 (cs := (cs.drop 4).take 6) (show DataW.trod enc Try.prog w base spare held n 28 ((cs.drop 4).take 6) = some _ from by rw [show (cs.drop 4).take 6 = (cs.drop 4).take (Try.prog.cellsOf 28) from congrArg (fun z => (cs.drop 4).take z) (by kernel_rfl)]; exact f4)
  have f5 := hf 5 _ rfl
  rw [List.getElem?_eq_getElem (show 5 < xs.length by rw [hlen]; decide)] at f5
  obtain ⟨a5, k5, g5⟩ := op29 (cs := (cs.drop 10).take 1) (show DataW.trod enc Try.prog w base spare held n 29 ((cs.drop 10).take 1) = some _ from by rw [show (cs.drop 10).take 1 = (cs.drop 10).take (Try.prog.cellsOf 29) from congrArg (fun z => (cs.drop 10).take z) (by kernel_rfl)]; exact f5)
  have f6 := hf 6 _ rfl
  rw [List.getElem?_eq_getElem (show 6 < xs.length by rw [hlen]; decide)] at f6
  obtain ⟨a6, k6, g6⟩ := op26 (cs := (cs.drop 11).take 1) (show DataW.trod enc Try.prog w base spare held n 26 ((cs.drop 11).take 1) = some _ from by rw [show (cs.drop 11).take 1 = (cs.drop 11).take (Try.prog.cellsOf 26) from congrArg (fun z => (cs.drop 11).take z) (by kernel_rfl)]; exact f6)
  have f7 := hf 7 _ rfl
  rw [List.getElem?_eq_getElem (show 7 < xs.length by rw [hlen]; decide)] at f7
  obtain ⟨a7, k7, g7⟩ := op80 (cs := (cs.drop 12).take 1) (show DataW.trod enc Try.prog w base spare held n 80 ((cs.drop 12).take 1) = some _ from by rw [show (cs.drop 12).take 1 = (cs.drop 12).take (Try.prog.cellsOf 80) from congrArg (fun z => (cs.drop 12).take z) (by kernel_rfl)]; exact f7)
  exact ⟨⟨a0, a1, a2, a3, a4, a5, a6, a7⟩, (rd_more (o := 0) (s := 1) k0 (rd_more (o := 1) (s := 1) k1 (rd_more (o := 2) (s := 1) k2 (rd_more (o := 3) (s := 1) k3 (rd_more (o := 4) (s := 6) k4 (rd_more (o := 10) (s := 1) k5 (rd_more (o := 11) (s := 1) k6 (rd_last (o := 12) (s := 1) k7 hl2)))))))), ⟨g0, g1, g2, g3, g4, g5, g6, g7⟩⟩
theorem op22 {fuel : Nat} {cs : List Value} {x : DataW H × List MemPlace} (h : DataW.trod enc Try.prog w base spare held fuel 22 cs = some x) : ∃ a : List XPend, RepPs w (Here w) [XPend.sP a] cs ∧ (∀ q0, q0 ∈ a → XPend.Ok q0) := rd_slice XPend.zero (f := XPend.ps) (sz := 13) Try.underlying22 (by kernel_rfl) (by decide) (fun _ => rfl) (fun _ _ _ h => op82 h) h
theorem op24 {fuel : Nat} {cs : List Value} {x : DataW H × List MemPlace} (h : DataW.trod enc Try.prog w base spare held fuel 24 cs = some x) : ∃ a : XTable, RepPs w (Here w) a.ps cs ∧ XTable.Ok a := by
  obtain ⟨xs, n, rfl, _, hl, hlen, hf⟩ := DataW.trod_struct Try.underlying24 h
  have hl2 : cs.length = 2 := hl.trans (by kernel_rfl)
  clear h
  have f0 := hf 0 _ rfl
  rw [List.getElem?_eq_getElem (show 0 < xs.length by rw [hlen]; decide)] at f0
  obtain ⟨a0, k0, g0⟩ := op3 (cs := (cs.drop 0).take 1) (show DataW.trod enc Try.prog w base spare held n 3 ((cs.drop 0).take 1) = some _ from by rw [show (cs.drop 0).take 1 = (cs.drop 0).take (Try.prog.cellsOf 3) from congrArg (fun z => (cs.drop 0).take z) (by kernel_rfl)]; exact f0)
  have f1 := hf 1 _ rfl
  rw [List.getElem?_eq_getElem (show 1 < xs.length by rw [hlen]; decide)] at f1
  obtain ⟨a1, k1, g1⟩ := op22 (cs := (cs.drop 1).take 1) (show DataW.trod enc Try.prog w base spare held n 22 ((cs.drop 1).take 1) = some _ from by rw [show (cs.drop 1).take 1 = (cs.drop 1).take (Try.prog.cellsOf 22) from congrArg (fun z => (cs.drop 1).take z) (by kernel_rfl)]; exact f1)
  exact ⟨⟨a0, a1⟩, (rd_more (o := 0) (s := 1) k0 (rd_last (o := 1) (s := 1) k1 hl2)), ⟨g0, g1⟩⟩
end
set_option maxRecDepth 100000 in
theorem lifted (os : Os) (started : os.Started) (H : Type) (enc : TypeId × Value → H) :
    ReturnsInHanded {} Try.checked os 3 .any (Rows.fnExactTableOpenSpec.pre6 enc Try.prog Try.f3 Rows.fnExactTableOpenRow.domain false) (Rows.fnExactTableOpenSpec.post enc Try.prog Try.f3 false true false false) := by
  refine returnsInHanded_of_change_sized (C := Try.checked) own started (by kernel_rfl) Try.func3
    (ChangeSpec.witness6 (enc := enc) (C := Try.checked) false ⟨#[], #[.agg #[.int .i64 0, .slice none 0 0], .int .i64 0, .int .i64 0, .int .i64 0, .agg #[.int .i64 0, .int .i64 0, .int .i64 0, .slice none 0 0, .slice none 0 0, .int .i64 0], .slice none 0 0], []⟩ 8 (by kernel_rfl) (by kernel_rfl) (by kernel_rfl) (by kernel_rfl)) ?_
  intro W base args ds gs before hval0 hW hcnd hsz0 _
  have hval : ∀ (j : Nat) t v, Try.f3.params[j]? = some t → args[j]? = some v → Value.okWide Try.prog W .any base t v := hval0
  have hW' := hW
  obtain ⟨p, q, hA0, hV, rfl, hfz, hnd⟩ := hW
  have hA : DataW.TrodAll enc Try.prog W 0 (fun _ => true) true Try.f3.params.toList args.toList ds p := hA0
  rw [Try.params3] at hA hval
  obtain ⟨v0, vs0, d0, ds0, p0, q0, hargs, rfl, rfl, h0, r0⟩ := trodAll_cons hA
  obtain ⟨v1, vs1, d1, ds1, p1, q1, rfl, rfl, rfl, h1, r1⟩ := trodAll_cons r0
  obtain ⟨v2, vs2, d2, ds2, p2, q2, rfl, rfl, rfl, h2, r2⟩ := trodAll_cons r1
  obtain ⟨v3, vs3, d3, ds3, p3, q3, rfl, rfl, rfl, h3, r3⟩ := trodAll_cons r2
  obtain ⟨v4, vs4, d4, ds4, p4, q4, rfl, rfl, rfl, h4, r4⟩ := trodAll_cons r3
  obtain ⟨v5, vs5, d5, ds5, p5, q5, rfl, rfl, rfl, h5, r5⟩ := trodAll_cons r4
  obtain ⟨rfl, rfl, rfl⟩ := trodAll_nil r5
  obtain rfl : args = #[v0, v1, v2, v3, v4, v5] := by cases args; simp_all
  obtain ⟨rfl, rfl⟩ := trodVars_none hV
  obtain ⟨cs0, rfl, hs0⟩ := okWide_struct Try.underlying24 (hval 0 24 v0 rfl rfl)
  have k0 := h0
  have lt0 : ∀ x ∈ p0, x.block < W.heap.size := by obtain ⟨m, hm⟩ := k0; exact DataW.trod_lt m _ _ _ hm
  obtain ⟨fuel0, hf0⟩ := h0
  obtain ⟨x0, K0, g0⟩ := op24 hf0
  obtain ⟨x1, rfl, rfl, rfl, g1⟩ := open_int Try.underlying3 (hval 1 3 v1 rfl rfl) h1
  obtain ⟨x2, rfl, rfl, rfl, g2⟩ := open_int Try.underlying3 (hval 2 3 v2 rfl rfl) h2
  obtain ⟨x3, rfl, rfl, rfl, g3⟩ := open_int Try.underlying3 (hval 3 3 v3 rfl rfl) h3
  obtain ⟨cs4, rfl, hs4⟩ := okWide_struct Try.underlying28 (hval 4 28 v4 rfl rfl)
  have k4 := h4
  have lt4 : ∀ x ∈ p4, x.block < W.heap.size := by obtain ⟨m, hm⟩ := k4; exact DataW.trod_lt m _ _ _ hm
  obtain ⟨fuel4, hf4⟩ := h4
  obtain ⟨x4, K4, g4⟩ := op28 hf4
  obtain ⟨a5, len5, cap5, rfl⟩ := okWide_slice Try.underlying29 (hval 5 29 v5 rfl rfl)
  have k5 := h5
  have lt5 : ∀ x ∈ p5, x.block < W.heap.size := by obtain ⟨m, hm⟩ := k5; exact DataW.trod_lt m _ _ _ hm
  obtain ⟨fuel5, hf5⟩ := h5
  obtain ⟨x5, K5, g5⟩ := op29 hf5
  clear hA0 hval0 hsz0
  refine ((law_FnExactTableOpen x0 g0 x1 g1 x2 g2 x3 g3 x4 g4 x5 g5).law (w := W) (repVs_cons (rep_agg K0) (repVs_cons (Rep.int .i64 x1) (repVs_cons (Rep.int .i64 x2) (repVs_cons (Rep.int .i64 x3) (repVs_cons (rep_agg K4) (repVs_cons (rep_one K5 rfl) repVs_nil))))))).mono fun e W' he0 => ?_
  obtain ⟨he, bel⟩ := he0
  subst he
  exact ⟨_, rfl, _, _, _, [], _, [], hW', trodAll_mk1 (shut_bool Try.underlying4 _), (trodAll_cons_mk (Below.trod laidOut (by kernel_rfl) (of_decide_eq_true (by kernel_rfl)) k0 bel lt0) (trodAll_cons_mk (shut_int Try.underlying3 g1) (trodAll_cons_mk (shut_int Try.underlying3 g2) (trodAll_cons_mk (shut_int Try.underlying3 g3) (trodAll_cons_mk (Below.trod laidOut (by kernel_rfl) (of_decide_eq_true (by kernel_rfl)) k4 bel lt4) (trodAll_cons_mk (Below.trod laidOut (by kernel_rfl) (of_decide_eq_true (by kernel_rfl)) k5 bel lt5) trodAll_mk0)))))), rfl, bel.frame _, fun h => by cases h⟩
theorem over : Rows.fnExactTableOpenRow.holds Try.pinned (OpenSpec.ofChange Rows.fnExactTableOpenSpec) :=
  OpenClaim.holds_of_wide 3 Try.f3 rfl rfl rfl rfl rfl rfl rfl ⟨rfl, rfl, rfl, rfl, rfl⟩ rfl rfl rfl rfl rfl (by kernel_rfl) Try.func3 (by kernel_rfl)
    (of_decide_eq_true (by kernel_rfl)) (by unfold Func.isWrapper; first | (rw [if_pos (by decide +kernel)]; kernel_rfl) | (rw [if_neg (by decide +kernel)]; exact ⟨rfl, rfl⟩))
    (fun os started H enc _ => lifted os started H enc)
theorem proved : Rows.FnExactTableOpenSaid := over
#print axioms proved
end Go.Proofs.Ytojkaphhgldepaa.fnExactTableOpen
namespace Go.Proofs.Ytojkaphhgldepaa
/-- The row, under a short name, for the claim. -/
theorem fnExactTableOpen_holds : Rows.FnExactTableOpenSaid := fnExactTableOpen.proved
end Go.Proofs.Ytojkaphhgldepaa
