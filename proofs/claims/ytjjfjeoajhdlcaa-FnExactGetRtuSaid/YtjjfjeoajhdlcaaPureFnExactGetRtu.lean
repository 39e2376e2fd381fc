/- The pure statement of the law FnExactGetRtu: with rounds enough it tells true of every argument that can be read. Its parts: what the printed functions tell. -/
import Derived.Test.YtjjfjeoajhdlcaaPFnExactGetRtux
import Derived.Test.YtjjfjeoajhdlcaaWPure
import Derived.Test.YtjjfjeoajhdlcaaWCrc
set_option linter.unusedVariables false
set_option linter.unusedSimpArgs false
namespace Go.Proofs.Ytjjfjeoajhdlcaa.Pure
open Go.RowKit Go.Proofs.Ytjjfjeoajhdlcaa.PFnExactGetRtu Go.Proofs.YtjjfjeoajhdlcaaW.PrintWords Go.Proofs.YtjjfjeoajhdlcaaW.PrintLast Go.Proofs.YtjjfjeoajhdlcaaW.Pure

theorem laws_toByteS_ev (l : List Int) (hl : l.length ≤ 1048576) : Ev (fun k => laws_toByteS.f k l) l := by
  simp only [laws_toByteS.f]
  refine Ev.pos (by omega) (Ev.pos (by omega) ?_)
  have h := copy_ev laws_toByteS.l0 l 0 (by omega) (fun a i hi ha h => Ev.step (fun k => by
    simp only [laws_toByteS.l0]
    rw [if_pos (by omega), if_pos (by omega), if_pos (by omega), Int.toNat_natCast, rd_nat l i hi]) h) (fun a k => by
    simp only [laws_toByteS.l0]
    rw [if_neg (by omega)])
  simpa using h

theorem laws_eqByteS_ev (l : List Int) (hl : l.length ≤ 4611686018427387904) : Ev (fun k => laws_eqByteS.f k l l) true := by
  simp only [laws_eqByteS.f]
  refine Ev.pos (by first | trivial | rfl) ?_
  exact same_ev (fun k i => laws_eqByteS.l0 k l l i) l hl (fun i hi h => Ev.step (fun k => by
    simp only [laws_eqByteS.l0]
    rw [if_pos (by omega), if_pos (by omega), if_pos (by omega), if_pos trivial]) h) (fun k => by
    simp only [laws_eqByteS.l0]
    rw [if_neg (by omega)])

def eByte (k : Int) : Int := k % 256
theorem laws_markByteS_ev (l : List Int) (m : Int) (h0 : 0 ≤ m) (hl : m + l.length ≤ 4611686018427387904) : Ev (fun k => laws_markByteS.f k l m) (m + l.length, marks eByte l.length m) := by
  simp only [laws_markByteS.f]
  exact mark_ev laws_markByteS.l0 eByte (fun k x m i hi => by
    simp only [laws_markByteS.l0]
    rw [if_pos (by omega), if_pos (by omega), Int.toNat_natCast]
    rfl) (fun k x m => by
    simp only [laws_markByteS.l0]
    rw [if_neg (by omega)]) l m h0 hl

theorem laws_heldByteS_ev (n : Nat) (m : Int) (h0 : 0 ≤ m) (hl : m + n ≤ 4611686018427387904) : Ev (fun k => laws_heldByteS.f k (marks eByte n m) m) (m + n) := by
  simp only [laws_heldByteS.f]
  exact held_ev laws_heldByteS.l0 eByte (fun k x m i hi h => by
    simp only [laws_heldByteS.l0]
    rw [if_pos (by omega), if_pos (by omega), if_pos (by rw [rd_nat x i hi, h]; rfl)]) (fun k x m => by
    simp only [laws_heldByteS.l0]
    rw [if_neg (by omega)]) n m h0 hl

theorem spec_Crc_ev (l : List Int) (hl : l.length ≤ 1048576) (hb : ∀ x ∈ l, 0 ≤ x ∧ x < 256) : Ev (fun k => spec_Crc.f k l) (crcN 65535 l : Nat) := by
  simp only [spec_Crc.f]
  exact crc_ev (fun k x i => spec_Crc.l0 k l x i) (fun k x i j => spec_Crc.l1 k l x i j) l _ (by omega) hb
    (fun k x i hi => by simp only [spec_Crc.l0]; rw [if_pos (by omega), if_pos (by omega), rd_nat l i hi])
    (fun k x i j hi hj h => by simp only [spec_Crc.l1]; rw [if_pos (by omega), if_pos h])
    (fun k x i j hi hj h => by simp only [spec_Crc.l1]; rw [if_pos (by omega), if_neg h])
    (fun k x i hi => by simp only [spec_Crc.l1]; rw [if_neg (by omega)])
    (fun k => by simp only [spec_Crc.l0]; rw [if_neg (by omega)])

theorem impl_Crc_ev (l : List Int) (hl : l.length ≤ 1048576) (hb : ∀ x ∈ l, 0 ≤ x ∧ x < 256) : Ev (fun k => impl_Crc.f k l) (crcN 65535 l : Nat) := by
  simp only [impl_Crc.f]
  exact crc_ev (fun k x i => impl_Crc.l0 k x l (l.length : Int) i) (fun k x i j => impl_Crc.l1 k x l (l.length : Int) i j) l _ (by omega) hb
    (fun k x i hi => by simp only [impl_Crc.l0]; rw [if_pos (by omega), if_pos (by omega), if_pos (by omega), rd_nat l i hi])
    (fun k x i j hi hj h => by simp only [impl_Crc.l1]; rw [if_pos (by omega), if_pos h])
    (fun k x i j hi hj h => by simp only [impl_Crc.l1]; rw [if_pos (by omega), if_neg h])
    (fun k x i hi => by simp only [impl_Crc.l1]; rw [if_neg (by omega)])
    (fun k => by simp only [impl_Crc.l0]; rw [if_neg (by omega)])

def getRtuN (l : List Int) : Int × List Int × Int :=
  if l.length < 4 then (0, [], 1) else if 256 < l.length then (0, [], 2) else
  if ((crcN 65535 (l.take (l.length - 2)) % 256 : Nat) : Int) = l.getD (l.length - 2) 0 ∧ ((crcN 65535 (l.take (l.length - 2)) / 256 : Nat) : Int) = l.getD (l.length - 1) 0 then (l.getD 0 0, (l.take (l.length - 2)).drop 1, 0) else (0, [], 3)
theorem spec_GetRtu_ev (l : List Int) (hl : l.length ≤ 1048576) (hb : ∀ x ∈ l, 0 ≤ x ∧ x < 256) : Ev (fun k => spec_GetRtu.f k l) (getRtuN l) := by
  simp only [spec_GetRtu.f]
  refine Ev.ite (fun h => ?_) (fun h => ?_)
  · exact Ev.eq (Ev.now _) (by unfold getRtuN; rw [if_pos (by omega)])
  refine Ev.ite (fun h2 => ?_) (fun h2 => ?_)
  · exact Ev.eq (Ev.now _) (by unfold getRtuN; rw [if_neg (by omega), if_pos (by omega)])
  have e2 : wrap64 ((l.length : Int) - 2) = ((l.length - 2 : Nat) : Int) := by rw [wrap_id (by omega) (by omega)]; omega
  have e1 : wrap64 ((l.length : Int) - 1) = ((l.length - 1 : Nat) : Int) := by rw [wrap_id (by omega) (by omega)]; omega
  simp only [e1, e2, Int.toNat_natCast]
  refine Ev.pos (by omega) (Ev.pos (by omega) (Ev.bind (spec_Crc_ev _ (by simp; omega) (fun x hx => hb x (List.mem_of_mem_take hx))) ?_))
  try dsimp only
  have hs := crcN_lt (l.take (l.length - 2)) 65535 (fun x hx => hb x (List.mem_of_mem_take hx)) (by decide)
  have r2 : rd l ((l.length - 2 : Nat) : Int) = l.getD (l.length - 2) 0 := by simp [rd]
  have r1 : rd l ((l.length - 1 : Nat) : Int) = l.getD (l.length - 1) 0 := by simp [rd]
  have r0 : rd l 0 = l.getD 0 0 := by simp [rd]
  have hx0 : 0 ≤ l.getD 0 0 ∧ l.getD 0 0 < 256 := by
    have := hb (l[0]'(by omega)) (List.getElem_mem _)
    simpa [List.getD, List.getElem?_eq_getElem (show 0 < l.length by omega)] using this
  rw [r2, r1, r0]
  refine Ev.pos (by omega) (Ev.ite (fun h3 => ?_) (fun h3 => ?_))
  · refine Ev.pos (by omega) (Ev.pos (by omega) (Ev.ite (fun h4 => ?_) (fun h4 => ?_)))
    · refine Ev.pos (by omega) (Ev.then (a := []) rfl ?_)
      try dsimp only
      refine Ev.pos (by omega) (Ev.pos (by simp; omega) (Ev.eq (Ev.now _) ?_))
      unfold getRtuN
      rw [if_neg (by omega), if_neg (by omega), if_pos (by constructor <;> omega), wrap_id (by omega) (by omega)]
      rfl
    · exact Ev.eq (Ev.now _) (by unfold getRtuN; rw [if_neg (by omega), if_neg (by omega), if_neg (by omega)])
  · exact Ev.eq (Ev.now _) (by unfold getRtuN; rw [if_neg (by omega), if_neg (by omega), if_neg (by omega)])

theorem slices_Clone_byte (l : List Int) (hl : l.length ≤ 4611686018427) : slices_Clone_byte_byte.f l = some l := by
  simp only [slices_Clone_byte_byte.f, Option.bind_some]
  rw [if_pos (by simp; omega)]
  rfl

theorem impl_GetRtu_ev (l : List Int) (hl : l.length ≤ 1048576) (hb : ∀ x ∈ l, 0 ≤ x ∧ x < 256) : Ev (fun k => impl_GetRtu.f k l) (getRtuN l) := by
  simp only [impl_GetRtu.f]
  have e2 : wrap64 ((l.length : Int) - 2) = (l.length : Int) - 2 := wrap_id (by omega) (by omega)
  simp only [e2]
  refine Ev.ite (fun h => ?_) (fun h => ?_)
  · exact Ev.eq (Ev.now _) (by unfold getRtuN; rw [if_pos (by omega)])
  refine Ev.ite (fun h2 => ?_) (fun h2 => ?_)
  · exact Ev.eq (Ev.now _) (by unfold getRtuN; rw [if_neg (by omega), if_pos (by omega)])
  refine Ev.bind (impl_Crc_ev _ (by omega) hb) ?_
  try dsimp only
  have hs := crcN_lt (l.take (l.length - 2)) 65535 (fun x hx => hb x (List.mem_of_mem_take hx)) (by decide)
  have hlo := hb (l[l.length - 2]'(by omega)) (List.getElem_mem _)
  have hhi := hb (l[l.length - 1]'(by omega)) (List.getElem_mem _)
  have hx0 := hb (l[0]'(by omega)) (List.getElem_mem _)
  have g2 : l.getD (l.length - 2) 0 = l[l.length - 2]'(by omega) := by simp [List.getD, List.getElem?_eq_getElem (show l.length - 2 < l.length by omega)]
  have g1 : l.getD (l.length - 1) 0 = l[l.length - 1]'(by omega) := by simp [List.getD, List.getElem?_eq_getElem (show l.length - 1 < l.length by omega)]
  have g0 : l.getD 0 0 = l[0]'(by omega) := by simp [List.getD, List.getElem?_eq_getElem (show 0 < l.length by omega)]
  have hsplit : l = l.take (l.length - 2) ++ [l[l.length - 2]'(by omega), l[l.length - 1]'(by omega)] := by
    have a := List.take_succ_eq_append_getElem (l := l) (i := l.length - 2) (by omega)
    have b := List.take_succ_eq_append_getElem (l := l) (i := l.length - 2 + 1) (by omega)
    rw [List.take_of_length_le (by omega), a] at b
    simp only [List.append_assoc, List.cons_append, List.nil_append, show l.length - 2 + 1 = l.length - 1 by omega] at b
    exact b
  have hc : crcN 65535 l = byteN (byteN (crcN 65535 (l.take (l.length - 2))) (l[l.length - 2]'(by omega)).toNat) (l[l.length - 1]'(by omega)).toNat := by
    conv => lhs; rw [hsplit]
    simp only [crcN, List.foldl_append, List.foldl_cons, List.foldl_nil]
  have hz := crc_ends (s := crcN 65535 (l.take (l.length - 2))) (lo := (l[l.length - 2]'(by omega)).toNat) (hi := (l[l.length - 1]'(by omega)).toNat) hs (by omega) (by omega)
  rw [← hc] at hz
  refine Ev.ite (fun h3 => ?_) (fun h3 => ?_)
  · have h4 := hz.1 (by omega)
    refine Ev.pos (by omega) (Ev.pos (by omega) (Ev.pos (by omega) (Ev.then (slices_Clone_byte _ (by simp; omega)) (Ev.eq (Ev.now _) ?_))))
    unfold getRtuN
    rw [if_neg (by omega), if_neg (by omega), if_pos (by rw [g2, g1]; constructor <;> omega), g0, show rd l 0 = l[0]'(by omega) from rd_nat l 0 (by omega), wrap_id (by omega) (by omega)]
    simp only [show ((l.length : Int) - 2).toNat = l.length - 2 by omega]
  · refine Ev.eq (Ev.now _) ?_
    unfold getRtuN
    rw [if_neg (by omega), if_neg (by omega), if_neg ?_]
    rintro ⟨h5, h6⟩
    rw [g2] at h5
    rw [g1] at h6
    exact h3 (by have := hz.2 ⟨by omega, by omega⟩; omega)

theorem getRtuN_len (l : List Int) (hl : l.length ≤ 1048576) : (getRtuN l).2.1.length ≤ 1048576 := by
  unfold getRtuN
  split
  · simp
  split
  · simp
  split
  · simp; omega
  · simp
theorem FnExactGetRtu : laws_FnExactGetRtu.Pure := by
  intro l hmax _ hwf
  refine Ev.rounds (g := fun k => laws_FnExactGetRtu.f k l) ?_
  have hb : ∀ x ∈ l, 0 ≤ x ∧ x < 256 := fun x hx => wf_u8 (hwf x hx)
  simp only [laws_FnExactGetRtu.f]
  refine Ev.ite (fun _ => Ev.now _) (fun hL => ?_)
  have hl : l.length ≤ 1048576 := by omega
  have hr := getRtuN_len l hl
  have hs := spec_GetRtu_ev l hl hb
  have hi := impl_GetRtu_ev l hl hb
  generalize getRtuN l = r at hr hs hi
  obtain ⟨r1, r2, r3⟩ := r
  dsimp only at hr
  repeat (first
    | exact Ev.now _
    | (refine Ev.bind (laws_toByteS_ev l hl) ?_; try dsimp only)
    | (refine Ev.bind hs ?_; try dsimp only)
    | (refine Ev.bind hi ?_; try dsimp only)
    | (refine Ev.bind (laws_eqByteS_ev _ (by omega)) ?_; try dsimp only)
    | (refine Ev.bind (laws_markByteS_ev _ _ (by omega) (by omega)) ?_; try dsimp only)
    | (refine Ev.bind (laws_heldByteS_ev _ _ (by omega) (by omega)) ?_; try dsimp only)
    | refine Ev.pos trivial ?_
    | refine Ev.pos rfl ?_
    | refine Ev.neg (by omega) ?_
    | refine Ev.neg (by simp) ?_
    | (refine Ev.step (fun _ => rfl) ?_; simp only [laws_FnExactGetRtu.j0, laws_FnExactGetRtu.j1, laws_FnExactGetRtu.j2]))

end Go.Proofs.Ytjjfjeoajhdlcaa.Pure
