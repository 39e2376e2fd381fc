/- The pure statement of the law FnExactStreamOk: with rounds enough it tells true of every argument that can be read. Its parts: what the printed functions tell. -/
import Derived.Test.YtjjfjeoajhdlcaaPFnExactStreamOkx
import Derived.Test.YtjjfjeoajhdlcaaWPure
set_option linter.unusedVariables false
set_option linter.unusedSimpArgs false
namespace Go.Proofs.Ytjjfjeoajhdlcaa.Pure
open Go.RowKit Go.Proofs.Ytjjfjeoajhdlcaa.PFnExactStreamOk Go.Proofs.YtjjfjeoajhdlcaaW.PrintWords Go.Proofs.YtjjfjeoajhdlcaaW.PrintLast Go.Proofs.YtjjfjeoajhdlcaaW.Pure

theorem laws_toByteS_ev (l : List Int) (hl : l.length ≤ 1048576) : Ev (fun k => laws_toByteS.f k l) l := by
  simp only [laws_toByteS.f]
  refine Ev.pos (by omega) (Ev.pos (by omega) ?_)
  have h := copy_ev laws_toByteS.l0 l 0 (by omega) (fun a i hi ha h => Ev.step (fun k => by
    simp only [laws_toByteS.l0]
    rw [if_pos (by omega), if_pos (by omega), if_pos (by omega), Int.toNat_natCast, rd_nat l i hi]) h) (fun a k => by
    simp only [laws_toByteS.l0]
    rw [if_neg (by omega)])
  simpa using h

theorem laws_eqByteS_ev (l : List Int) (hl : l.length ≤ 4611686018427387904) : Ev (fun k => laws_eqByteS.f k l l) true := by
  simp only [laws_eqByteS.f]
  refine Ev.pos (by first | trivial | rfl) ?_
  exact same_ev (fun k i => laws_eqByteS.l0 k l l i) l hl (fun i hi h => Ev.step (fun k => by
    simp only [laws_eqByteS.l0]
    rw [if_pos (by omega), if_pos (by omega), if_pos (by omega), if_pos trivial]) h) (fun k => by
    simp only [laws_eqByteS.l0]
    rw [if_neg (by omega)])

theorem laws_szByteS_ok (l : List Int) (left : Int) (h0 : 0 ≤ left) (h1 : left ≤ 1048576) (hl : l.length ≤ 9223372036854775807) : ∃ r, laws_szByteS.f l left = some r ∧ (0 ≤ r → r ≤ left ∧ l.length ≤ 1048576) := by
  simp only [laws_szByteS.f]
  rw [wrap_id (by omega) (by omega)]
  split
  · exact ⟨_, rfl, fun h => by omega⟩
  · exact ⟨_, rfl, fun h => by omega⟩

theorem laws_szStream_ok (x0 : List Int) (x1 : Bool) (left : Int) (h0 : 0 ≤ left) (h1 : left ≤ 1048576) (hl0 : x0.length ≤ 9223372036854775807) : ∃ r, laws_szStream.f x0 x1 left = some r ∧ (0 ≤ r → r ≤ left ∧ x0.length ≤ 1048576) := by
  simp only [laws_szStream.f]
  obtain ⟨r0, e0, k0⟩ := laws_szByteS_ok x0 left (by omega) (by omega) hl0
  rw [e0]
  simp only [Option.bind_some]
  by_cases c0 : r0 < 0
  · rw [if_pos c0]
    exact ⟨_, rfl, fun h => by omega⟩
  rw [if_neg c0]
  have k0' := k0 (by omega)
  exact ⟨_, rfl, fun h => by omega⟩

theorem laws_toStream_ev (x0 : List Int) (x1 : Bool) (hl0 : x0.length ≤ 1048576) : Ev (fun k => laws_toStream.f k x0 x1) (x0, x1) := by
  simp only [laws_toStream.f]
  refine Ev.bind (laws_toByteS_ev x0 hl0) ?_
  try dsimp only
  exact Ev.now _

theorem laws_eqStream_ev (x0 : List Int) (x1 : Bool) (hl0 : x0.length ≤ 4611686018427387904) : Ev (fun k => laws_eqStream.f k x0 x1 x0 x1) true := by
  cases x1 <;> (
  simp only [laws_eqStream.f]
  repeat (first
    | exact Ev.now _
    | refine Ev.pos trivial ?_
    | refine Ev.pos rfl ?_
    | refine Ev.neg (by decide) ?_
    | (refine Ev.bind (laws_eqByteS_ev x0 hl0) ?_; try dsimp only)))

theorem StreamOk_same (l : List Int) (b : Bool) : impl_StreamOk.f l b = spec_StreamOk.f l b := by rfl
theorem StreamOk_some (l : List Int) (b : Bool) : ∃ r, spec_StreamOk.f l b = some r := by
  simp only [spec_StreamOk.f]
  repeat' split
  all_goals exact ⟨_, rfl⟩

theorem FnExactStreamOk : laws_FnExactStreamOk.Pure := by
  intro x0 x1 w0
  refine Ev.rounds (g := fun k => laws_FnExactStreamOk.f k x0 x1) ?_
  simp only [laws_FnExactStreamOk.f]
  obtain ⟨r, er, hr⟩ := laws_szStream_ok x0 x1 1048576 (by omega) (by omega) w0.1
  refine Ev.then er ?_
  refine Ev.ite (fun _ => Ev.now _) (fun hn => ?_)
  have hr' := hr (by omega)
  obtain ⟨q, eq⟩ := StreamOk_some x0 x1
  have eq2 : impl_StreamOk.f x0 x1 = some q := (StreamOk_same x0 x1).trans eq
  refine Ev.bind (laws_toStream_ev x0 x1 (by omega)) ?_
  try dsimp only
  refine Ev.then eq ?_
  refine Ev.bind (laws_toStream_ev x0 x1 (by omega)) ?_
  try dsimp only
  refine Ev.then eq2 ?_
  cases q <;> (
  repeat (first
    | exact Ev.now _
    | refine Ev.pos rfl ?_
    | refine Ev.neg (by decide) ?_
    | (refine Ev.bind (laws_toStream_ev x0 x1 (by omega)) ?_; try dsimp only)
    | (refine Ev.bind (laws_eqStream_ev x0 x1 (by omega)) ?_; try dsimp only)))

end Go.Proofs.Ytjjfjeoajhdlcaa.Pure
