/- The row of the law FnExactFabricOk: for every input that can be read, the call returns true and the arguments read as before. -/
import Derived.Test.YtknlfechpcimkaaGreatRows
import Derived.Test.YtknlfechpcimkaaGreatXFabricOk
import Derived.Test.YtknlfechpcimkaaGreatViZ
import Derived.WalkKit
import Derived.ProofKit
import Derived.OpenShut
import Derived.ShutString
import Derived.ChangeOld
import Derived.Below
import Derived.SizedLaws
namespace Go.Proofs.YtknlfechpcimkaaGreat.fnExactFabricOk
open Go Go.Vi Go.ChangeShapes Go.WideShapes Go.ChangeAt Go.RowKit
open Go.ChangeMaps (open_string shut_string)
open Go.Proofs.YtknlfechpcimkaaGreat
set_option linter.unusedVariables false
set_option linter.unusedSimpArgs false
theorem own : ownKnob Tryz.prog.godebug = none := by kernel_rfl
theorem laidOut : laidOutB Tryz.prog = true := by kernel_rfl
section
variable {H : Type} {enc : TypeId × Value → H} {w : World} {base : Nat} {spare : Nat → Bool} {held : Bool}
theorem op3 {fuel : Nat} {cs : List Value} {x : DataW H × List MemPlace} (h : DataW.trod enc Tryz.prog w base spare held fuel 3 cs = some x) : ∃ a : Int, RepPs w (Here w) [.int .i64 a] cs ∧ (Lit.int .i64 a).wf = true := rd_int Tryz.underlying3 h
theorem op125 {fuel : Nat} {cs : List Value} {x : DataW H × List MemPlace} (h : DataW.trod enc Tryz.prog w base spare held fuel 125 cs = some x) : ∃ a : XRule, RepPs w (Here w) a.ps cs ∧ XRule.Ok a := by
  obtain ⟨xs, n, rfl, _, hl, hlen, hf⟩ := DataW.trod_struct Tryz.underlying125 h
  have hl2 : cs.length = 7 := hl.trans (by kernel_rfl)
  clear h
  have f0 := hf 0 _ rfl
  rw [List.getElem?_eq_getElem (show 0 < xs.length by rw [hlen]; decide)] at f0
  obtain ⟨a0, k0, g0⟩ := op3 (cs := (cs.drop 0).take 1) (show DataW.trod enc Tryz.prog w base spare held n 3 ((cs.drop 0).take 1) = some _ from by rw [show (cs.drop 0).take 1 = (cs.drop 0).take (Tryz.prog.cellsOf 3) from congrArg (fun z => (cs.drop 0).take z) (by kernel_rfl)]; exact f0)
  have f1 := hf 1 _ rfl
  rw [List.getElem?_eq_getElem (show 1 < xs.length by rw [hlen]; decide)] at f1
  obtain ⟨a1, k1, g1⟩ := op3 (cs := (cs.drop 1).take 1) (show DataW.trod enc Tryz.prog w base spare held n 3 ((cs.drop 1).take 1) = some _ from by rw [show (cs.drop 1).take 1 = (cs.drop 1).take (Tryz.prog.cellsOf 3) from congrArg (fun z => (cs.drop 1).take z) (by kernel_rfl)]; exact f1)
  have f2 := hf 2 _ rfl
  rw [List.getElem?_eq_getElem (show 2 < xs.length by rw [hlen]; decide)] at f2
  obtain ⟨a2, k2, g2⟩ := op3 (cs := (cs.drop 2).take 1) (show DataW.trod enc Tryz.prog w base spare held n 3 ((cs.drop 2).take 1) = some _ from by rw [show (cs.drop 2).take 1 = (cs.drop 2).take (Tryz.prog.cellsOf 3) from congrArg (fun z => (cs.drop 2).take z) (by kernel_rfl)]; exact f2)
  have f3 := hf 3 _ rfl
  rw [List.getElem?_eq_getElem (show 3 < xs.length by rw [hlen]; decide)] at f3
  obtain ⟨a3, k3, g3⟩ := op3 (cs := (cs.drop 3).take 1) (show DataW.trod enc Tryz.prog w base spare held n 3 ((cs.drop 3).take 1) = some _ from by rw [show (cs.drop 3).take 1 = (cs.drop 3).take (Tryz.prog.cellsOf 3) from congrArg (fun z => (cs.drop 3).take z) (by kernel_rfl)]; exact f3)
  have f4 := hf 4 _ rfl
  rw [List.getElem?_eq_getElem (show 4 < xs.length by rw [hlen]; decide)] at f4
  obtain ⟨a4, k4, g4⟩ := op3 (cs := (cs.drop 4).take 1) (show DataW.trod enc Tryz.prog w base spare held n 3 ((cs.drop 4).take 1) = some _ from by rw [show (cs.drop 4).take 1 = (cs.drop 4).take (Tryz.prog.cellsOf 3) from congrArg (fun z => (cs.drop 4).take z) (by kernel_rfl)]; exact f4)
  have f5 := hf 5 _ rfl
  rw [List.getElem?_eq_getElem (show 5 < xs.length by rw [hlen]; decide)] at f5
  obtain ⟨a5, k5, g5⟩ := op3 (cs := (cs.drop 5).take 1) (show DataW.trod enc Tryz.prog w base spare held n 3 ((cs.drop 5).take 1) = some _ from by rw [show (cs.drop 5).take 1 = (cs.drop 5).take (Tryz.prog.cellsOf 3) from congrArg (fun z => (cs.drop 5).take z) (by kernel_rfl)]; exact f5)
  have f6 := hf 6 _ rfl
  rw [List.getElem?_eq_getElem (show 6 < xs.length by rw [hlen]; decide)] at f6
  obtain ⟨a6, k6, g6⟩ := op3 (cs := (cs.drop 6).take 1) (show DataW.trod enc Tryz.prog w base spare held n 3 ((cs.drop 6).take 1) = some _ from by rw [show (cs.drop 6).take 1 = (cs.drop 6).take (Tryz.prog.cellsOf 3) from congrArg (fun z => (cs.drop 6).take z) (by kernel_rfl)]; exact f6)
  exact ⟨⟨a0, a1, a2, a3, a4, a5, a6⟩, (rd_more (o := 0) (s := 1) k0 (rd_more (o := 1) (s := 1) k1 (rd_more (o := 2) (s := 1) k2 (rd_more (o := 3) (s := 1) k3 (rd_more (o := 4) (s := 1) k4 (rd_more (o := 5) (s := 1) k5 (rd_last (o := 6) (s := 1) k6 hl2))))))), ⟨g0, g1, g2, g3, g4, g5, g6⟩⟩
theorem op22 {fuel : Nat} {cs : List Value} {x : DataW H × List MemPlace} (h : DataW.trod enc Tryz.prog w base spare held fuel 22 cs = some x) : ∃ a : List XRule, RepPs w (Here w) [XRule.sP a] cs ∧ (∀ q0, q0 ∈ a → XRule.Ok q0) := rd_slice XRule.zero (f := XRule.ps) (sz := 7) Tryz.underlying22 (by kernel_rfl) (by decide) (fun _ => rfl) (fun _ _ _ h => op125 h) h
theorem op24 {fuel : Nat} {cs : List Value} {x : DataW H × List MemPlace} (h : DataW.trod enc Tryz.prog w base spare held fuel 24 cs = some x) : ∃ a : XConfig, RepPs w (Here w) a.ps cs ∧ XConfig.Ok a := by
  obtain ⟨xs, n, rfl, _, hl, hlen, hf⟩ := DataW.trod_struct Tryz.underlying24 h
  have hl2 : cs.length = 3 := hl.trans (by kernel_rfl)
  clear h
  have f0 := hf 0 _ rfl
  rw [List.getElem?_eq_getElem (show 0 < xs.length by rw [hlen]; decide)] at f0
  obtain ⟨a0, k0, g0⟩ := op3 (cs := (cs.drop 0).take 1) (show DataW.trod enc Tryz.prog w base spare held n 3 ((cs.drop 0).take 1) = some _ from by rw [show (cs.drop 0).take 1 = (cs.drop 0).take (Tryz.prog.cellsOf 3) from congrArg (fun z => (cs.drop 0).take z) (by kernel_rfl)]; exact f0)
  have f1 := hf 1 _ rfl
  rw [List.getElem?_eq_getElem (show 1 < xs.length by rw [hlen]; decide)] at f1
  obtain ⟨a1, k1, g1⟩ := op3 (cs := (cs.drop 1).take 1) (show DataW.trod enc Tryz.prog w base spare held n 3 ((cs.drop 1).take 1) = some _ from by rw [show (cs.drop 1).take 1 = (cs.drop 1).take (Tryz.prog.cellsOf 3) from congrArg (fun z => (cs.drop 1).take z) (by kernel_rfl)]; exact f1)
  have f2 := hf 2 _ rfl
  rw [List.getElem?_eq_getElem (show 2 < xs.length by rw [hlen]; decide)] at f2
  obtain ⟨a2, k2, g2⟩ := op22 (cs := (cs.drop 2).take 1) (show DataW.trod enc Tryz.prog w base spare held n 22 ((cs.drop 2).take 1) = some _ from by rw [show (cs.drop 2).take 1 = (cs.drop 2).take (Tryz.prog.cellsOf 22) from congrArg (fun z => (cs.drop 2).take z) (by kernel_rfl)]; exact f2)
  exact ⟨⟨a0, a1, a2⟩, (rd_more (o := 0) (s := 1) k0 (rd_more (o := 1) (s := 1) k1 (rd_last (o := 2) (s := 1) k2 hl2))), ⟨g0, g1, g2⟩⟩
theorem op54 {fuel : Nat} {cs : List Value} {x : DataW H × List MemPlace} (h : DataW.trod enc Tryz.prog w base spare held fuel 54 cs = some x) : ∃ a : List Int, RepPs w (Here w) [intsP a] cs ∧ (∀ q0, q0 ∈ a → (Lit.int .i64 q0).wf = true) := rd_slice 0 (f := intEl) (sz := 1) Tryz.underlying54 (by kernel_rfl) (by decide) (fun _ => rfl) (fun _ _ _ h => op3 h) h
theorem op4 {fuel : Nat} {cs : List Value} {x : DataW H × List MemPlace} (h : DataW.trod enc Tryz.prog w base spare held fuel 4 cs = some x) : ∃ a : Bool, RepPs w (Here w) [.bool a] cs ∧ True := rd_bool Tryz.underlying4 h
theorem op55 {fuel : Nat} {cs : List Value} {x : DataW H × List MemPlace} (h : DataW.trod enc Tryz.prog w base spare held fuel 55 cs = some x) : ∃ a : List Bool, RepPs w (Here w) [boolsP a] cs ∧ (∀ q0, q0 ∈ a → True) := rd_slice false (f := boolEl) (sz := 1) Tryz.underlying55 (by kernel_rfl) (by decide) (fun _ => rfl) (fun _ _ _ h => op4 h) h
theorem op80 {fuel : Nat} {cs : List Value} {x : DataW H × List MemPlace} (h : DataW.trod enc Tryz.prog w base spare held fuel 80 cs = some x) : ∃ a : XReq, RepPs w (Here w) a.ps cs ∧ XReq.Ok a := by
  obtain ⟨xs, n, rfl, _, hl, hlen, hf⟩ := DataW.trod_struct Tryz.underlying80 h
  have hl2 : cs.length = 6 := hl.trans (by kernel_rfl)
  clear h
  have f0 := hf 0 _ rfl
  rw [List.getElem?_eq_getElem (show 0 < xs.length by rw [hlen]; decide)] at f0
  obtain ⟨a0, k0, g0⟩ := op3 (cs := (cs.drop 0).take 1) (show DataW.trod enc Tryz.prog w base spare held n 3 ((cs.drop 0).take 1) = some _ from by rw [show (cs.drop 0).take 1 = (cs.drop 0).take (Tryz.prog.cellsOf 3) from congrArg (fun z => (cs.drop 0).take z) (by kernel_rfl)]; exact f0)
  have f1 := hf 1 _ rfl
  rw [List.getElem?_eq_getElem (show 1 < xs.length by rw [hlen]; decide)] at f1
  obtain ⟨a1, k1, g1⟩ := op3 (cs := (cs.drop 1).take 1) (show DataW.trod enc Tryz.prog w base spare held n 3 ((cs.drop 1).take 1) = some _ from by rw [show (cs.drop 1).take 1 = (cs.drop 1).take (Tryz.prog.cellsOf 3) from congrArg (fun z => (cs.drop 1).take z) (by kernel_rfl)]; exact f1)
  have f2 := hf 2 _ rfl
  rw [List.getElem?_eq_getElem (show 2 < xs.length by rw [hlen]; decide)] at f2
  obtain ⟨a2, k2, g2⟩ := op3 (cs := (cs.drop 2).take 1) (show DataW.trod enc Tryz.prog w base spare held n 3 ((cs.drop 2).take 1) = some _ from by rw [show (cs.drop 2).take 1 = (cs.drop 2).take (Tryz.prog.cellsOf 3) from congrArg (fun z => (cs.drop 2).take z) (by kernel_rfl)]; exact f2)
  have f3 := hf 3 _ rfl
  rw [List.getElem?_eq_getElem (show 3 < xs.length by rw [hlen]; decide)] at f3
  obtain ⟨a3, k3, g3⟩ := op54 (cs := (cs.drop 3).take 1) (show DataW.trod enc Tryz.prog w base spare held n 54 ((cs.drop 3).take 1) = some _ from by rw [show (cs.drop 3).take 1 = (cs.drop 3).take (Tryz.prog.cellsOf 54) from congrArg (fun z => (cs.drop 3).take z) (by kernel_rfl)]; exact f3)
  have f4 := hf 4 _ rfl
  rw [List.getElem?_eq_getElem (show 4 < xs.length by rw [hlen]; decide)] at f4
  obtain ⟨a4, k4, g4⟩ := op55 (cs := (cs.drop 4).take 1) (show DataW.trod enc Tryz.prog w base spare held n 55 ((cs.drop 4).take 1) = some _ from by rw [show (cs.drop 4).take 1 = (cs.drop 4).take (Tryz.prog.cellsOf 55) from congrArg (fun z => (cs.drop 4).take z) (by kernel_rfl)]; exact f4)
  have f5 := hf 5 _ rfl
  rw [List.getElem?_eq_getElem (show 5 < xs.length by rw [hlen]; decide)] at f5
  obtain ⟨a5, k5, g5⟩ := op3 (cs := (cs.drop 5).take 1) (show DataW.trod enc Tryz.prog w base spare held n 3 ((cs.drop 5).take 1) = some _ from by rw [show (cs.drop 5).take 1 = (cs.drop 5).take (Tryz.prog.cellsOf 3) from congrArg (fun z => (cs.drop 5).take z) (by kernel_rfl)]; exact f5)
  exact ⟨⟨a0, a1, a2, a3, a4, a5⟩, (rd_more (o := 0) (s := 1) k0 (rd_more (o := 1) (s := 1) k1 (rd_more (o := 2) (s := 1) k2 (rd_more (o := 3) (s := 1) k3 (rd_more (o := 4) (s := 1) k4 (rd_last (o := 5) (s := 1) k5 hl2)))))), ⟨g0, g1, g2, g3, g4, g5⟩⟩
theorem op158 {fuel : Nat} {cs : List Value} {x : DataW H × List MemPlace} (h : DataW.trod enc Tryz.prog w base spare held fuel 158 cs = some x) : ∃ a : XPart, RepPs w (Here w) a.ps cs ∧ XPart.Ok a := by
  obtain ⟨xs, n, rfl, _, hl, hlen, hf⟩ := DataW.trod_struct Tryz.underlying158 h
  have hl2 : cs.length = 8 := hl.trans (by kernel_rfl)
  clear h
  have f0 := hf 0 _ rfl
  rw [List.getElem?_eq_getElem (show 0 < xs.length by rw [hlen]; decide)] at f0
  obtain ⟨a0, k0, g0⟩ := op3 (cs := (cs.drop 0).take 1) (show DataW.trod enc Tryz.prog w base spare held n 3 ((cs.drop 0).take 1) = some _ from by rw [show (cs.drop 0).take 1 = (cs.drop 0).take (Tryz.prog.cellsOf 3) from congrArg (fun z => (cs.drop 0).take z) (by kernel_rfl)]; exact f0)
  have f1 := hf 1 _ rfl
  rw [List.getElem?_eq_getElem (show 1 < xs.length by rw [hlen]; decide)] at f1
  obtain ⟨a1, k1, g1⟩ := op3 (cs := (cs.drop 1).take 1) (show DataW.trod enc Tryz.prog w base spare held n 3 ((cs.drop 1).take 1) = some _ from by rw [show (cs.drop 1).take 1 = (cs.drop 1).take (Tryz.prog.cellsOf 3) from congrArg (fun z => (cs.drop 1).take z) (by kernel_rfl)]; exact f1)
  have f2 := hf 2 _ rfl
  rw [List.getElem?_eq_getElem (show 2 < xs.length by rw [hlen]; decide)] at f2
  obtain ⟨a2, k2, g2⟩ := op80 (cs := (cs.drop 2).take 6) (show DataW.trod enc Tryz.prog w base spare held n 80 ((cs.drop 2).take 6) = some _ from by rw [show (cs.drop 2).take 6 = (cs.drop 2).take (Tryz.prog.cellsOf 80) from congrArg (fun z => (cs.drop 2).take z) (by kernel_rfl)]; exact f2)
  exact ⟨⟨a0, a1, a2⟩, (rd_more (o := 0) (s := 1) k0 (rd_more (o := 1) (s := 1) k1 (rd_last (o := 2) (s := 6) k2 hl2))), ⟨g0, g1, g2⟩⟩
theorem op107 {fuel : Nat} {cs : List Value} {x : DataW H × List MemPlace} (h : DataW.trod enc Tryz.prog w base spare held fuel 107 cs = some x) : ∃ a : List XPart, RepPs w (Here w) [XPart.sP a] cs ∧ (∀ q0, q0 ∈ a → XPart.Ok q0) := rd_slice XPart.zero (f := XPart.ps) (sz := 8) Tryz.underlying107 (by kernel_rfl) (by decide) (fun _ => rfl) (fun _ _ _ h => op158 h) h
theorem op160 {fuel : Nat} {cs : List Value} {x : DataW H × List MemPlace} (h : DataW.trod enc Tryz.prog w base spare held fuel 160 cs = some x) : ∃ a : XResp, RepPs w (Here w) a.ps cs ∧ XResp.Ok a := by
  obtain ⟨xs, n, rfl, _, hl, hlen, hf⟩ := DataW.trod_struct Tryz.underlying160 h
  have hl2 : cs.length = 6 := hl.trans (by kernel_rfl)
  clear h
  have f0 := hf 0 _ rfl
  rw [List.getElem?_eq_getElem (show 0 < xs.length by rw [hlen]; decide)] at f0
  obtain ⟨a0, k0, g0⟩ := op3 (cs := (cs.drop 0).take 1) (show DataW.trod enc Tryz.prog w base spare held n 3 ((cs.drop 0).take 1) = some _ from by rw [show (cs.drop 0).take 1 = (cs.drop 0).take (Tryz.prog.cellsOf 3) from congrArg (fun z => (cs.drop 0).take z) (by kernel_rfl)]; exact f0)
  have f1 := hf 1 _ rfl
  rw [List.getElem?_eq_getElem (show 1 < xs.length by rw [hlen]; decide)] at f1
  obtain ⟨a1, k1, g1⟩ := op3 (cs := (cs.drop 1).take 1) (show DataW.trod enc Tryz.prog w base spare held n 3 ((cs.drop 1).take 1) = some _ from by rw [show (cs.drop 1).take 1 = (cs.drop 1).take (Tryz.prog.cellsOf 3) from congrArg (fun z => (cs.drop 1).take z) (by kernel_rfl)]; exact f1)
  have f2 := hf 2 _ rfl
  rw [List.getElem?_eq_getElem (show 2 < xs.length by rw [hlen]; decide)] at f2
  obtain ⟨a2, k2, g2⟩ := op3 (cs := (cs.drop 2).take 1) (show DataW.trod enc Tryz.prog w base spare held n 3 ((cs.drop 2).take 1) = some _ from by rw [show (cs.drop 2).take 1 = (cs.drop 2).take (Tryz.prog.cellsOf 3) from congrArg (fun z => (cs.drop 2).take z) (by kernel_rfl)]; exact f2)
  have f3 := hf 3 _ rfl
  rw [List.getElem?_eq_getElem (show 3 < xs.length by rw [hlen]; decide)] at f3
  obtain ⟨a3, k3, g3⟩ := op3 (cs := (cs.drop 3).take 1) (show DataW.trod enc Tryz.prog w base spare held n 3 ((cs.drop 3).take 1) = some _ from by rw [show (cs.drop 3).take 1 = (cs.drop 3).take (Tryz.prog.cellsOf 3) from congrArg (fun z => (cs.drop 3).take z) (by kernel_rfl)]; exact f3)
  have f4 := hf 4 _ rfl
  rw [List.getElem?_eq_getElem (show 4 < xs.length by rw [hlen]; decide)] at f4
  obtain ⟨a4, k4, g4⟩ := op54 (cs := (cs.drop 4).take 1) (show DataW.trod enc Tryz.prog w base spare held n 54 ((cs.drop 4).take 1) = some _ from by rw [show (cs.drop 4).take 1 = (cs.drop 4).take (Tryz.prog.cellsOf 54) from congrArg (fun z => (cs.drop 4).take z) (by kernel_rfl)]; exact f4)
  have f5 := hf 5 _ rfl
  rw [List.getElem?_eq_getElem (show 5 < xs.length by rw [hlen]; decide)] at f5
  obtain ⟨a5, k5, g5⟩ := op55 (cs := (cs.drop 5).take 1) (show DataW.trod enc Tryz.prog w base spare held n 55 ((cs.drop 5).take 1) = some _ from by rw [show (cs.drop 5).take 1 = (cs.drop 5).take (Tryz.prog.cellsOf 55) from congrArg (fun z => (cs.drop 5).take z) (by kernel_rfl)]; exact f5)
  exact ⟨⟨a0, a1, a2, a3, a4, a5⟩, (rd_more (o := 0) (s := 1) k0 (rd_more (o := 1) (s := 1) k1 (rd_more (o := 2) (s := 1) k2 (rd_more (o := 3) (s := 1) k3 (rd_more (o := 4) (s := 1) k4 (rd_last (o := 5) (s := 1) k5 hl2)))))), ⟨g0, g1, g2, g3, g4, g5⟩⟩
theorem op108 {fuel : Nat} {cs : List Value} {x : DataW H × List MemPlace} (h : DataW.trod enc Tryz.prog w base spare held fuel 108 cs = some x) : ∃ a : List XResp, RepPs w (Here w) [XResp.sP a] cs ∧ (∀ q0, q0 ∈ a → XResp.Ok q0) := rd_slice XResp.zero (f := XResp.ps) (sz := 6) Tryz.underlying108 (by kernel_rfl) (by decide) (fun _ => rfl) (fun _ _ _ h => op160 h) h
theorem op110 {fuel : Nat} {cs : List Value} {x : DataW H × List MemPlace} (h : DataW.trod enc Tryz.prog w base spare held fuel 110 cs = some x) : ∃ a : XPend, RepPs w (Here w) a.ps cs ∧ XPend.Ok a := by
  obtain ⟨xs, n, rfl, _, hl, hlen, hf⟩ := DataW.trod_struct Tryz.underlying110 h
  have hl2 : cs.length = 13 := hl.trans (by kernel_rfl)
  clear h
  have f0 := hf 0 _ rfl
  rw [List.getElem?_eq_getElem (show 0 < xs.length by rw [hlen]; decide)] at f0
  obtain ⟨a0, k0, g0⟩ := op3 (cs := (cs.drop 0).take 1) (show DataW.trod enc Tryz.prog w base spare held n 3 ((cs.drop 0).take 1) = some _ from by rw [show (cs.drop 0).take 1 = (cs.drop 0).take (Tryz.prog.cellsOf 3) from congrArg (fun z => (cs.drop 0).take z) (by kernel_rfl)]; exact f0)
  have f1 := hf 1 _ rfl
  rw [List.getElem?_eq_getElem (show 1 < xs.length by rw [hlen]; decide)] at f1
  obtain ⟨a1, k1, g1⟩ := op3 (cs := (cs.drop 1).take 1) (show DataW.trod enc Tryz.prog w base spare held n 3 ((cs.drop 1).take 1) = some _ from by rw [show (cs.drop 1).take 1 = (cs.drop 1).take (Tryz.prog.cellsOf 3) from congrArg (fun z => (cs.drop 1).take z) (by kernel_rfl)]; exact f1)
  have f2 := hf 2 _ rfl
  rw [List.getElem?_eq_getElem (show 2 < xs.length by rw [hlen]; decide)] at f2
  obtain ⟨a2, k2, g2⟩ := op3 (cs := (cs.drop 2).take 1) (show DataW.trod enc Tryz.prog w base spare held n 3 ((cs.drop 2).take 1) = some _ from by rw [show (cs.drop 2).take 1 = (cs.drop 2).take (Tryz.prog.cellsOf 3) from congrArg (fun z => (cs.drop 2).take z) (by kernel_rfl)]; exact f2)
  have f3 := hf 3 _ rfl
  rw [List.getElem?_eq_getElem (show 3 < xs.length by rw [hlen]; decide)] at f3
  obtain ⟨a3, k3, g3⟩ := op3 (cs := (cs.drop 3).take 1) (show DataW.trod enc Tryz.prog w base spare held n 3 ((cs.drop 3).take 1) = some _ from by rw [show (cs.drop 3).take 1 = (cs.drop 3).take (Tryz.prog.cellsOf 3) from congrArg (fun z => (cs.drop 3).take z) (by kernel_rfl)]; exact f3)
  have f4 := hf 4 _ rfl
  rw [List.getElem?_eq_getElem (show 4 < xs.length by rw [hlen]; decide)] at f4
  obtain ⟨a4, k4, g4⟩ := op80 (cs := (cs.drop 4).take 6) (show DataW.trod enc Tryz.prog w base spare held n 80 ((cs.drop 4).take 6) = some _ from by rw [show (cs.drop 4).take 6 = (cs.drop 4).take (Tryz.prog.cellsOf 80) from congrArg (fun z => (cs.drop 4).take z) (by kernel_rfl)]; exact f4)
  have f5 := hf 5 _ rfl
  rw [List.getElem?_eq_getElem (show 5 < xs.length by rw [hlen]; decide)] at f5
  obtain ⟨a5, k5, g5⟩ := op107 (cs := (cs.drop 10).take 1) (show DataW.trod enc Tryz.prog w base spare held n 107 ((cs.drop 10).take 1) = some _ from by rw [show (cs.drop 10).take 1 = (cs.drop 10).take (Tryz.prog.cellsOf 107) from congrArg (fun z => (cs.drop 10).take z) (by kernel_rfl)]; exact f5)
  have f6 := hf 6 _ rfl
  rw [List.getElem?_eq_getElem (show 6 < xs.length by rw [hlen]; decide)] at f6
  obtain ⟨a6, k6, g6⟩ := op55 (cs := (cs.drop 11).take 1) (show DataW.trod enc Tryz.prog w base spare held n 55 ((cs.drop 11).take 1) = some _ from by rw [show (cs.drop 11).take 1 = (cs.drop 11).take (Tryz.prog.cellsOf 55) from congrArg (fun z => (cs.drop 11).take z) (by kernel_rfl)]; exact f6)
  have f7 := hf 7 _ rfl
  rw [List.getElem?_eq_getElem (show 7 < xs.length by rw [hlen]; decide)] at f7
  obtain ⟨a7, k7, g7⟩ := op108 (cs := (cs.drop 12).take 1) (show DataW.trod enc Tryz.prog w base spare held n 108 ((cs.drop 12).take 1) = some _ from by rw [show (cs.drop 12).take 1 = (cs.drop 12).take (Tryz.prog.cellsOf 108) from congrArg (fun z => (cs.drop 12).take z) (by kernel_rfl)]; exact f7)
  exact ⟨⟨a0, a1, a2, a3, a4, a5, a6, a7⟩, (rd_more (o := 0) (s := 1) k0 (rd_more (o := 1) (s := 1) k1 (rd_more (o := 2) (s := 1) k2 (rd_more (o := 3) (s := 1) k3 (rd_more (o := 4) (s := 6) k4 (rd_more (o := 10) (s := 1) k5 (rd_more (o := 11) (s := 1) k6 (rd_last (o := 12) (s := 1) k7 hl2)))))))), ⟨g0, g1, g2, g3, g4, g5, g6, g7⟩⟩
theorem op25 {fuel : Nat} {cs : List Value} {x : DataW H × List MemPlace} (h : DataW.trod enc Tryz.prog w base spare held fuel 25 cs = some x) : ∃ a : List XPend, RepPs w (Here w) [XPend.sP a] cs ∧ (∀ q0, q0 ∈ a → XPend.Ok q0) := rd_slice XPend.zero (f := XPend.ps) (sz := 13) Tryz.underlying25 (by kernel_rfl) (by decide) (fun _ => rfl) (fun _ _ _ h => op110 h) h
theorem op27 {fuel : Nat} {cs : List Value} {x : DataW H × List MemPlace} (h : DataW.trod enc Tryz.prog w base spare held fuel 27 cs = some x) : ∃ a : XTable, RepPs w (Here w) a.ps cs ∧ XTable.Ok a := by
  obtain ⟨xs, n, rfl, _, hl, hlen, hf⟩ := DataW.trod_struct Tryz.underlying27 h
  have hl2 : cs.length = 2 := hl.trans (by kernel_rfl)
  clear h
  have f0 := hf 0 _ rfl
  rw [List.getElem?_eq_getElem (show 0 < xs.length by rw [hlen]; decide)] at f0
  obtain ⟨a0, k0, g0⟩ := op3 (cs := (cs.drop 0).take 1) (show DataW.trod enc Tryz.prog w base spare held n 3 ((cs.drop 0).take 1) = some _ from by rw [show (cs.drop 0).take 1 = (cs.drop 0).take (Tryz.prog.cellsOf 3) from congrArg (fun z => (cs.drop 0).take z) (by kernel_rfl)]; exact f0)
  have f1 := hf 1 _ rfl
  rw [List.getElem?_eq_getElem (show 1 < xs.length by rw [hlen]; decide)] at f1
  obtain ⟨a1, k1, g1⟩ := op25 (cs := (cs.drop 1).take 1) (show DataW.trod enc Tryz.prog w base spare held n 25 ((cs.drop 1).take 1) = some _ from by rw [show (cs.drop 1).take 1 = (cs.drop 1).take (Tryz.prog.cellsOf 25) from congrArg (fun z => (cs.drop 1).take z) (by kernel_rfl)]; exact f1)
  exact ⟨⟨a0, a1⟩, (rd_more (o := 0) (s := 1) k0 (rd_last (o := 1) (s := 1) k1 hl2)), ⟨g0, g1⟩⟩
theorem op82 {fuel : Nat} {cs : List Value} {x : DataW H × List MemPlace} (h : DataW.trod enc Tryz.prog w base spare held fuel 82 cs = some x) : ∃ a : XCall, RepPs w (Here w) a.ps cs ∧ XCall.Ok a := by
  obtain ⟨xs, n, rfl, _, hl, hlen, hf⟩ := DataW.trod_struct Tryz.underlying82 h
  have hl2 : cs.length = 9 := hl.trans (by kernel_rfl)
  clear h
  have f0 := hf 0 _ rfl
  rw [List.getElem?_eq_getElem (show 0 < xs.length by rw [hlen]; decide)] at f0
  obtain ⟨a0, k0, g0⟩ := op3 (cs := (cs.drop 0).take 1) (show DataW.trod enc Tryz.prog w base spare held n 3 ((cs.drop 0).take 1) = some _ from by rw [show (cs.drop 0).take 1 = (cs.drop 0).take (Tryz.prog.cellsOf 3) from congrArg (fun z => (cs.drop 0).take z) (by kernel_rfl)]; exact f0)
  have f1 := hf 1 _ rfl
  rw [List.getElem?_eq_getElem (show 1 < xs.length by rw [hlen]; decide)] at f1
  obtain ⟨a1, k1, g1⟩ := op3 (cs := (cs.drop 1).take 1) (show DataW.trod enc Tryz.prog w base spare held n 3 ((cs.drop 1).take 1) = some _ from by rw [show (cs.drop 1).take 1 = (cs.drop 1).take (Tryz.prog.cellsOf 3) from congrArg (fun z => (cs.drop 1).take z) (by kernel_rfl)]; exact f1)
  have f2 := hf 2 _ rfl
  rw [List.getElem?_eq_getElem (show 2 < xs.length by rw [hlen]; decide)] at f2
  obtain ⟨a2, k2, g2⟩ := op3 (cs := (cs.drop 2).take 1) (show DataW.trod enc Tryz.prog w base spare held n 3 ((cs.drop 2).take 1) = some _ from by rw [show (cs.drop 2).take 1 = (cs.drop 2).take (Tryz.prog.cellsOf 3) from congrArg (fun z => (cs.drop 2).take z) (by kernel_rfl)]; exact f2)
  have f3 := hf 3 _ rfl
  rw [List.getElem?_eq_getElem (show 3 < xs.length by rw [hlen]; decide)] at f3
  obtain ⟨a3, k3, g3⟩ := op80 (cs := (cs.drop 3).take 6) (show DataW.trod enc Tryz.prog w base spare held n 80 ((cs.drop 3).take 6) = some _ from by rw [show (cs.drop 3).take 6 = (cs.drop 3).take (Tryz.prog.cellsOf 80) from congrArg (fun z => (cs.drop 3).take z) (by kernel_rfl)]; exact f3)
  exact ⟨⟨a0, a1, a2, a3⟩, (rd_more (o := 0) (s := 1) k0 (rd_more (o := 1) (s := 1) k1 (rd_more (o := 2) (s := 1) k2 (rd_last (o := 3) (s := 6) k3 hl2)))), ⟨g0, g1, g2, g3⟩⟩
theorem op79 {fuel : Nat} {cs : List Value} {x : DataW H × List MemPlace} (h : DataW.trod enc Tryz.prog w base spare held fuel 79 cs = some x) : ∃ a : List XCall, RepPs w (Here w) [XCall.sP a] cs ∧ (∀ q0, q0 ∈ a → XCall.Ok q0) := rd_slice XCall.zero (f := XCall.ps) (sz := 9) Tryz.underlying79 (by kernel_rfl) (by decide) (fun _ => rfl) (fun _ _ _ h => op82 h) h
theorem op84 {fuel : Nat} {cs : List Value} {x : DataW H × List MemPlace} (h : DataW.trod enc Tryz.prog w base spare held fuel 84 cs = some x) : ∃ a : XLine, RepPs w (Here w) a.ps cs ∧ XLine.Ok a := by
  obtain ⟨xs, n, rfl, _, hl, hlen, hf⟩ := DataW.trod_struct Tryz.underlying84 h
  have hl2 : cs.length = 17 := hl.trans (by kernel_rfl)
  clear h
  have f0 := hf 0 _ rfl
  rw [List.getElem?_eq_getElem (show 0 < xs.length by rw [hlen]; decide)] at f0
  obtain ⟨a0, k0, g0⟩ := op79 (cs := (cs.drop 0).take 1) (show DataW.trod enc Tryz.prog w base spare held n 79 ((cs.drop 0).take 1) = some _ from by rw [show (cs.drop 0).take 1 = (cs.drop 0).take (Tryz.prog.cellsOf 79) from congrArg (fun z => (cs.drop 0).take z) (by kernel_rfl)]; exact f0)
  have f1 := hf 1 _ rfl
  rw [List.getElem?_eq_getElem (show 1 < xs.length by rw [hlen]; decide)] at f1
  obtain ⟨a1, k1, g1⟩ := op4 (cs := (cs.drop 1).take 1) (show DataW.trod enc Tryz.prog w base spare held n 4 ((cs.drop 1).take 1) = some _ from by rw [show (cs.drop 1).take 1 = (cs.drop 1).take (Tryz.prog.cellsOf 4) from congrArg (fun z => (cs.drop 1).take z) (by kernel_rfl)]; exact f1)
  have f2 := hf 2 _ rfl
  rw [List.getElem?_eq_getElem (show 2 < xs.length by rw [hlen]; decide)] at f2
  obtain ⟨a2, k2, g2⟩ := op82 (cs := (cs.drop 2).take 9) (show DataW.trod enc Tryz.prog w base spare held n 82 ((cs.drop 2).take 9) = some _ from by rw [show (cs.drop 2).take 9 = (cs.drop 2).take (Tryz.prog.cellsOf 82) from congrArg (fun z => (cs.drop 2).take z) (by kernel_rfl)]; exact f2)
  have f3 := hf 3 _ rfl
  rw [List.getElem?_eq_getElem (show 3 < xs.length by rw [hlen]; decide)] at f3
  obtain ⟨a3, k3, g3⟩ := op3 (cs := (cs.drop 11).take 1) (show DataW.trod enc Tryz.prog w base spare held n 3 ((cs.drop 11).take 1) = some _ from by rw [show (cs.drop 11).take 1 = (cs.drop 11).take (Tryz.prog.cellsOf 3) from congrArg (fun z => (cs.drop 11).take z) (by kernel_rfl)]; exact f3)
  have f4 := hf 4 _ rfl
  rw [List.getElem?_eq_getElem (show 4 < xs.length by rw [hlen]; decide)] at f4
  obtain ⟨a4, k4, g4⟩ := op3 (cs := (cs.drop 12).take 1) (show DataW.trod enc Tryz.prog w base spare held n 3 ((cs.drop 12).take 1) = some _ from by rw [show (cs.drop 12).take 1 = (cs.drop 12).take (Tryz.prog.cellsOf 3) from congrArg (fun z => (cs.drop 12).take z) (by kernel_rfl)]; exact f4)
  have f5 := hf 5 _ rfl
  rw [List.getElem?_eq_getElem (show 5 < xs.length by rw [hlen]; decide)] at f5
  obtain ⟨a5, k5, g5⟩ := op3 (cs := (cs.drop 13).take 1) (show DataW.trod enc Tryz.prog w base spare held n 3 ((cs.drop 13).take 1) = some _ from by rw [show (cs.drop 13).take 1 = (cs.drop 13).take (Tryz.prog.cellsOf 3) from congrArg (fun z => (cs.drop 13).take z) (by kernel_rfl)]; exact f5)
  have f6 := hf 6 _ rfl
  rw [List.getElem?_eq_getElem (show 6 < xs.length by rw [hlen]; decide)] at f6
  obtain ⟨a6, k6, g6⟩ := op3 (cs := (cs.drop 14).take 1) (show DataW.trod enc Tryz.prog w base spare held n 3 ((cs.drop 14).take 1) = some _ from by rw [show (cs.drop 14).take 1 = (cs.drop 14).take (Tryz.prog.cellsOf 3) from congrArg (fun z => (cs.drop 14).take z) (by kernel_rfl)]; exact f6)
  have f7 := hf 7 _ rfl
  rw [List.getElem?_eq_getElem (show 7 < xs.length by rw [hlen]; decide)] at f7
  obtain ⟨a7, k7, g7⟩ := op3 (cs := (cs.drop 15).take 1) (show DataW.trod enc Tryz.prog w base spare held n 3 ((cs.drop 15).take 1) = some _ from by rw [show (cs.drop 15).take 1 = (cs.drop 15).take (Tryz.prog.cellsOf 3) from congrArg (fun z => (cs.drop 15).take z) (by kernel_rfl)]; exact f7)
  have f8 := hf 8 _ rfl
  rw [List.getElem?_eq_getElem (show 8 < xs.length by rw [hlen]; decide)] at f8
  obtain ⟨a8, k8, g8⟩ := op3 (cs := (cs.drop 16).take 1) (show DataW.trod enc Tryz.prog w base spare held n 3 ((cs.drop 16).take 1) = some _ from by rw [show (cs.drop 16).take 1 = (cs.drop 16).take (Tryz.prog.cellsOf 3) from congrArg (fun z => (cs.drop 16).take z) (by kernel_rfl)]; exact f8)
  exact ⟨⟨a0, a1, a2, a3, a4, a5, a6, a7, a8⟩, (rd_more (o := 0) (s := 1) k0 (rd_more (o := 1) (s := 1) k1 (rd_more (o := 2) (s := 9) k2 (rd_more (o := 11) (s := 1) k3 (rd_more (o := 12) (s := 1) k4 (rd_more (o := 13) (s := 1) k5 (rd_more (o := 14) (s := 1) k6 (rd_more (o := 15) (s := 1) k7 (rd_last (o := 16) (s := 1) k8 hl2))))))))), ⟨g0, g1, g2, g3, g4, g5, g6, g7, g8⟩⟩
theorem op28 {fuel : Nat} {cs : List Value} {x : DataW H × List MemPlace} (h : DataW.trod enc Tryz.prog w base spare held fuel 28 cs = some x) : ∃ a : List XLine, RepPs w (Here w) [XLine.sP a] cs ∧ (∀ q0, q0 ∈ a → XLine.Ok q0) := rd_slice XLine.zero (f := XLine.ps) (sz := 17) Tryz.underlying28 (by kernel_rfl) (by decide) (fun _ => rfl) (fun _ _ _ h => op84 h) h
theorem op30 {fuel : Nat} {cs : List Value} {x : DataW H × List MemPlace} (h : DataW.trod enc Tryz.prog w base spare held fuel 30 cs = some x) : ∃ a : XFabric, RepPs w (Here w) a.ps cs ∧ XFabric.Ok a := by
  obtain ⟨xs, n, rfl, _, hl, hlen, hf⟩ := DataW.trod_struct Tryz.underlying30 h
  have hl2 : cs.length = 11 := hl.trans (by kernel_rfl)
  clear h
  have f0 := hf 0 _ rfl
  rw [List.getElem?_eq_getElem (show 0 < xs.length by rw [hlen]; decide)] at f0
  obtain ⟨a0, k0, g0⟩ := op3 (cs := (cs.drop 0).take 1) (show DataW.trod enc Tryz.prog w base spare held n 3 ((cs.drop 0).take 1) = some _ from by rw [show (cs.drop 0).take 1 = (cs.drop 0).take (Tryz.prog.cellsOf 3) from congrArg (fun z => (cs.drop 0).take z) (by kernel_rfl)]; exact f0)
  have f1 := hf 1 _ rfl
  rw [List.getElem?_eq_getElem (show 1 < xs.length by rw [hlen]; decide)] at f1
  obtain ⟨a1, k1, g1⟩ := op24 (cs := (cs.drop 1).take 3) (show DataW.trod enc Tryz.prog w base spare held n 24 ((cs.drop 1).take 3) = some _ from by rw [show (cs.drop 1).take 3 = (cs.drop 1).take (Tryz.prog.cellsOf 24) from congrArg (fun z => (cs.drop 1).take z) (by kernel_rfl)]; exact f1)
  have f2 := hf 2 _ rfl
  rw [List.getElem?_eq_getElem (show 2 < xs.length by rw [hlen]; decide)] at f2
  obtain ⟨a2, k2, g2⟩ := op27 (cs := (cs.drop 4).take 2) (show DataW.trod enc Tryz.prog w base spare held n 27 ((cs.drop 4).take 2) = some _ from by rw [show (cs.drop 4).take 2 = (cs.drop 4).take (Tryz.prog.cellsOf 27) from congrArg (fun z => (cs.drop 4).take z) (by kernel_rfl)]; exact f2)
  have f3 := hf 3 _ rfl
  rw [List.getElem?_eq_getElem (show 3 < xs.length by rw [hlen]; decide)] at f3
  obtain ⟨a3, k3, g3⟩ := op28 (cs := (cs.drop 6).take 1) (show DataW.trod enc Tryz.prog w base spare held n 28 ((cs.drop 6).take 1) = some _ from by rw [show (cs.drop 6).take 1 = (cs.drop 6).take (Tryz.prog.cellsOf 28) from congrArg (fun z => (cs.drop 6).take z) (by kernel_rfl)]; exact f3)
  have f4 := hf 4 _ rfl
  rw [List.getElem?_eq_getElem (show 4 < xs.length by rw [hlen]; decide)] at f4
  obtain ⟨a4, k4, g4⟩ := op3 (cs := (cs.drop 7).take 1) (show DataW.trod enc Tryz.prog w base spare held n 3 ((cs.drop 7).take 1) = some _ from by rw [show (cs.drop 7).take 1 = (cs.drop 7).take (Tryz.prog.cellsOf 3) from congrArg (fun z => (cs.drop 7).take z) (by kernel_rfl)]; exact f4)
  have f5 := hf 5 _ rfl
  rw [List.getElem?_eq_getElem (show 5 < xs.length by rw [hlen]; decide)] at f5
  obtain ⟨a5, k5, g5⟩ := op3 (cs := (cs.drop 8).take 1) (show DataW.trod enc Tryz.prog w base spare held n 3 ((cs.drop 8).take 1) = some _ from by rw [show (cs.drop 8).take 1 = (cs.drop 8).take (Tryz.prog.cellsOf 3) from congrArg (fun z => (cs.drop 8).take z) (by kernel_rfl)]; exact f5)
  have f6 := hf 6 _ rfl
  rw [List.getElem?_eq_getElem (show 6 < xs.length by rw [hlen]; decide)] at f6
  obtain ⟨a6, k6, g6⟩ := op3 (cs := (cs.drop 9).take 1) (show DataW.trod enc Tryz.prog w base spare held n 3 ((cs.drop 9).take 1) = some _ from by rw [show (cs.drop 9).take 1 = (cs.drop 9).take (Tryz.prog.cellsOf 3) from congrArg (fun z => (cs.drop 9).take z) (by kernel_rfl)]; exact f6)
  have f7 := hf 7 _ rfl
  rw [List.getElem?_eq_getElem (show 7 < xs.length by rw [hlen]; decide)] at f7
  obtain ⟨a7, k7, g7⟩ := op3 (cs := (cs.drop 10).take 1) (show DataW.trod enc Tryz.prog w base spare held n 3 ((cs.drop 10).take 1) = some _ from by rw [show (cs.drop 10).take 1 = (cs.drop 10).take (Tryz.prog.cellsOf 3) from congrArg (fun z => (cs.drop 10).take z) (by kernel_rfl)]; exact f7)
  exact ⟨⟨a0, a1, a2, a3, a4, a5, a6, a7⟩, (rd_more (o := 0) (s := 1) k0 (rd_more (o := 1) (s := 3) k1 (rd_more (o := 4) (s := 2) k2 (rd_more (o := 6) (s := 1) k3 (rd_more (o := 7) (s := 1) k4 (rd_more (o := 8) (s := 1) k5 (rd_more (o := 9) (s := 1) k6 (rd_last (o := 10) (s := 1) k7 hl2)))))))), ⟨g0, g1, g2, g3, g4, g5, g6, g7⟩⟩
end
set_option maxRecDepth 100000 in
theorem lifted (os : Os) (started : os.Started) (H : Type) (enc : TypeId × Value → H) :
    ReturnsInHanded {} Tryz.checked os 3 .any (Rows.fnExactFabricOkSpec.pre6 enc Tryz.prog Tryz.f3 Rows.fnExactFabricOkRow.domain false) (Rows.fnExactFabricOkSpec.post enc Tryz.prog Tryz.f3 false true false false) := by
  refine returnsInHanded_of_change_sized (C := Tryz.checked) own started (by kernel_rfl) Tryz.func3
    (ChangeSpec.witness6 (enc := enc) (C := Tryz.checked) false ⟨#[], #[.agg #[.int .i64 0, .int .i64 0, .int .i64 0, .slice none 0 0, .int .i64 0, .slice none 0 0, .slice none 0 0, .int .i64 0, .int .i64 0, .int .i64 0, .int .i64 0]], []⟩ 8 (by kernel_rfl) (by kernel_rfl) (by kernel_rfl) (by kernel_rfl)) ?_
  intro W base args ds gs before hval0 hW hcnd hsz0 _
  have hval : ∀ (j : Nat) t v, Tryz.f3.params[j]? = some t → args[j]? = some v → Value.okWide Tryz.prog W .any base t v := hval0
  have hW' := hW
  obtain ⟨p, q, hA0, hV, rfl, hfz, hnd⟩ := hW
  have hA : DataW.TrodAll enc Tryz.prog W 0 (fun _ => true) true Tryz.f3.params.toList args.toList ds p := hA0
  rw [Tryz.params3] at hA hval
  obtain ⟨v0, vs0, d0, ds0, p0, q0, hargs, rfl, rfl, h0, r0⟩ := trodAll_cons hA
  obtain ⟨rfl, rfl, rfl⟩ := trodAll_nil r0
  obtain rfl : args = #[v0] := by cases args; simp_all
  obtain ⟨rfl, rfl⟩ := trodVars_none hV
  obtain ⟨cs0, rfl, hs0⟩ := okWide_struct Tryz.underlying30 (hval 0 30 v0 rfl rfl)
  have k0 := h0
  have lt0 : ∀ x ∈ p0, x.block < W.heap.size := by obtain ⟨m, hm⟩ := k0; exact DataW.trod_lt m _ _ _ hm
  obtain ⟨fuel0, hf0⟩ := h0
  obtain ⟨x0, K0, g0⟩ := op30 hf0
  clear hA0 hval0 hsz0
  refine ((law_FnExactFabricOk x0 g0).law (w := W) (repVs_cons (rep_agg K0) repVs_nil)).mono fun e W' he0 => ?_
  obtain ⟨he, bel⟩ := he0
  subst he
  exact ⟨_, rfl, _, _, _, [], _, [], hW', trodAll_mk1 (shut_bool Tryz.underlying4 _), (trodAll_cons_mk (Below.trod laidOut (by kernel_rfl) (of_decide_eq_true (by kernel_rfl)) k0 bel lt0) trodAll_mk0), rfl, bel.frame _, fun h => by cases h⟩
theorem over : Rows.fnExactFabricOkRow.holds Tryz.pinned (OpenSpec.ofChange Rows.fnExactFabricOkSpec) :=
  OpenClaim.holds_of_wide 3 Tryz.f3 rfl rfl rfl rfl rfl rfl rfl ⟨rfl, rfl, rfl, rfl, rfl⟩ rfl rfl rfl rfl rfl (by kernel_rfl) Tryz.func3 (by kernel_rfl)
    (of_decide_eq_true (by kernel_rfl)) (by unfold Func.isWrapper; first | (rw [if_pos (by decide +kernel)]; kernel_rfl) | (rw [if_neg (by decide +kernel)]; exact ⟨rfl, rfl⟩))
    (fun os started H enc _ => lifted os started H enc)
theorem proved : Rows.FnExactFabricOkSaid := over
#print axioms proved
end Go.Proofs.YtknlfechpcimkaaGreat.fnExactFabricOk
namespace Go.Proofs.YtknlfechpcimkaaGreat
/-- The row, under a short name, for the claim. -/
theorem fnExactFabricOk_holds : Rows.FnExactFabricOkSaid := fnExactFabricOk.proved
end Go.Proofs.YtknlfechpcimkaaGreat
