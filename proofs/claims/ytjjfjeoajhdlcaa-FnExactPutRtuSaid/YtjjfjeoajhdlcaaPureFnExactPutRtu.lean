/- The pure statement of the law FnExactPutRtu: with rounds enough it tells true of every argument that can be read. Its parts: what the printed functions tell. -/
import Derived.Test.YtjjfjeoajhdlcaaPFnExactPutRtux
import Derived.Test.YtjjfjeoajhdlcaaWPure
import Derived.Test.YtjjfjeoajhdlcaaWCrc
set_option linter.unusedVariables false
set_option linter.unusedSimpArgs false
namespace Go.Proofs.Ytjjfjeoajhdlcaa.Pure
open Go.RowKit Go.Proofs.Ytjjfjeoajhdlcaa.PFnExactPutRtu Go.Proofs.YtjjfjeoajhdlcaaW.PrintWords Go.Proofs.YtjjfjeoajhdlcaaW.PrintLast Go.Proofs.YtjjfjeoajhdlcaaW.Pure

theorem laws_toByteS_ev (l : List Int) (hl : l.length ≤ 1048576) : Ev (fun k => laws_toByteS.f k l) l := by
  simp only [laws_toByteS.f]
  refine Ev.pos (by omega) (Ev.pos (by omega) ?_)
  have h := copy_ev laws_toByteS.l0 l 0 (by omega) (fun a i hi ha h => Ev.step (fun k => by
    simp only [laws_toByteS.l0]
    rw [if_pos (by omega), if_pos (by omega), if_pos (by omega), Int.toNat_natCast, rd_nat l i hi]) h) (fun a k => by
    simp only [laws_toByteS.l0]
    rw [if_neg (by omega)])
  simpa using h

theorem laws_eqByteS_ev (l : List Int) (hl : l.length ≤ 4611686018427387904) : Ev (fun k => laws_eqByteS.f k l l) true := by
  simp only [laws_eqByteS.f]
  refine Ev.pos (by first | trivial | rfl) ?_
  exact same_ev (fun k i => laws_eqByteS.l0 k l l i) l hl (fun i hi h => Ev.step (fun k => by
    simp only [laws_eqByteS.l0]
    rw [if_pos (by omega), if_pos (by omega), if_pos (by omega), if_pos trivial]) h) (fun k => by
    simp only [laws_eqByteS.l0]
    rw [if_neg (by omega)])

def eByte (k : Int) : Int := k % 256
theorem laws_markByteS_ev (l : List Int) (m : Int) (h0 : 0 ≤ m) (hl : m + l.length ≤ 4611686018427387904) : Ev (fun k => laws_markByteS.f k l m) (m + l.length, marks eByte l.length m) := by
  simp only [laws_markByteS.f]
  exact mark_ev laws_markByteS.l0 eByte (fun k x m i hi => by
    simp only [laws_markByteS.l0]
    rw [if_pos (by omega), if_pos (by omega), Int.toNat_natCast]
    rfl) (fun k x m => by
    simp only [laws_markByteS.l0]
    rw [if_neg (by omega)]) l m h0 hl

theorem laws_heldByteS_ev (n : Nat) (m : Int) (h0 : 0 ≤ m) (hl : m + n ≤ 4611686018427387904) : Ev (fun k => laws_heldByteS.f k (marks eByte n m) m) (m + n) := by
  simp only [laws_heldByteS.f]
  exact held_ev laws_heldByteS.l0 eByte (fun k x m i hi h => by
    simp only [laws_heldByteS.l0]
    rw [if_pos (by omega), if_pos (by omega), if_pos (by rw [rd_nat x i hi, h]; rfl)]) (fun k x m => by
    simp only [laws_heldByteS.l0]
    rw [if_neg (by omega)]) n m h0 hl

theorem spec_l1In_eq (a b c : Int) : spec_l1In.f a b c = some (decide (b ≤ a ∧ a ≤ c)) := by
  simp only [spec_l1In.f]
  split
  · congr 1; simp only [decide_eq_decide]; omega
  · congr 1; symm; simp only [decide_eq_false_iff_not]; omega

theorem impl_in_eq (a b c : Int) : impl_in.f a b c = some (decide (b ≤ a ∧ a ≤ c)) := by
  simp only [impl_in.f]
  split
  · congr 1; simp only [decide_eq_decide]; omega
  · congr 1; symm; simp only [decide_eq_false_iff_not]; omega

theorem spec_l6Pdu_eq (a : Int) (l : List Int) : spec_l6Pdu.f a l = some (decide ((0 ≤ a ∧ a ≤ 255) ∧ 1 ≤ l.length ∧ l.length ≤ 253)) := by
  simp only [spec_l6Pdu.f, spec_l1In_eq, Option.bind_some]
  by_cases h : 0 ≤ a ∧ a ≤ 255
  · rw [if_pos (by simpa using h)]
    congr 1
    simp only [decide_eq_decide]
    omega
  · rw [if_neg (by simpa using h)]
    congr 1
    symm
    simp only [decide_eq_false_iff_not]
    omega

theorem impl_pduOk_eq (a : Int) (l : List Int) : impl_pduOk.f a l = some (decide ((0 ≤ a ∧ a ≤ 255) ∧ 1 ≤ l.length ∧ l.length ≤ 253)) := by
  simp only [impl_pduOk.f, impl_in_eq, Option.bind_some]
  by_cases h : 0 ≤ a ∧ a ≤ 255
  · rw [if_pos (by simpa using h)]
    congr 1
    simp only [decide_eq_decide]
    omega
  · rw [if_neg (by simpa using h)]
    congr 1
    symm
    simp only [decide_eq_false_iff_not]
    omega

theorem spec_Crc_ev (l : List Int) (hl : l.length ≤ 1048576) (hb : ∀ x ∈ l, 0 ≤ x ∧ x < 256) : Ev (fun k => spec_Crc.f k l) (crcN 65535 l : Nat) := by
  simp only [spec_Crc.f]
  exact crc_ev (fun k x i => spec_Crc.l0 k l x i) (fun k x i j => spec_Crc.l1 k l x i j) l _ (by omega) hb
    (fun k x i hi => by simp only [spec_Crc.l0]; rw [if_pos (by omega), if_pos (by omega), rd_nat l i hi])
    (fun k x i j hi hj h => by simp only [spec_Crc.l1]; rw [if_pos (by omega), if_pos h])
    (fun k x i j hi hj h => by simp only [spec_Crc.l1]; rw [if_pos (by omega), if_neg h])
    (fun k x i hi => by simp only [spec_Crc.l1]; rw [if_neg (by omega)])
    (fun k => by simp only [spec_Crc.l0]; rw [if_neg (by omega)])

theorem impl_Crc_ev (l : List Int) (hl : l.length ≤ 1048576) (hb : ∀ x ∈ l, 0 ≤ x ∧ x < 256) : Ev (fun k => impl_Crc.f k l) (crcN 65535 l : Nat) := by
  simp only [impl_Crc.f]
  exact crc_ev (fun k x i => impl_Crc.l0 k x l (l.length : Int) i) (fun k x i j => impl_Crc.l1 k x l (l.length : Int) i j) l _ (by omega) hb
    (fun k x i hi => by simp only [impl_Crc.l0]; rw [if_pos (by omega), if_pos (by omega), if_pos (by omega), rd_nat l i hi])
    (fun k x i j hi hj h => by simp only [impl_Crc.l1]; rw [if_pos (by omega), if_pos h])
    (fun k x i j hi hj h => by simp only [impl_Crc.l1]; rw [if_pos (by omega), if_neg h])
    (fun k x i hi => by simp only [impl_Crc.l1]; rw [if_neg (by omega)])
    (fun k => by simp only [impl_Crc.l0]; rw [if_neg (by omega)])

theorem slices_Grow_eq (a : Int) (h0 : 0 ≤ a) (h1 : a ≤ 1099511627776) : slices_Grow_byte_byte.f [] a = some [] := by
  simp only [slices_Grow_byte_byte.f]
  rw [wrap_id (by omega) (by omega), if_neg (by omega)]
  have h2 : a.toNat < 140737488355328 := by omega
  split
  · simp [h0, h2]
  · rfl

theorem slices_Concat_ev (ls : List (List Int)) (hn : ls.length ≤ 1000) (hl : ∀ x ∈ ls, x.length ≤ 2097152) : Ev (fun k => slices_Concat_byte_byte.f k ls) ls.flatten := by
  have hsum : ∀ i, i ≤ ls.length → ((ls.take i).flatten).length ≤ i * 2097152 := by
    intro i
    induction i with
    | zero => intro _; simp
    | succ i ih =>
      intro hi
      rw [List.take_succ_eq_append_getElem (by omega), List.flatten_append, List.length_append]
      have := ih (by omega)
      have := hl ls[i] (List.getElem_mem _)
      simp only [List.flatten_cons, List.flatten_nil, List.append_nil]
      omega
  have hrd : ∀ (i : Nat) (h : i < ls.length), rd_L1 ls (i : Int) = ls[i] := fun i h => by simp [rd_L1, h]
  simp only [slices_Concat_byte_byte.f]
  refine Ev.down (r := ls.flatten) ls.length (fun i k => slices_Concat_byte_byte.l0 k ls (((ls.take i).flatten.length : Nat) : Int) ls (ls.length : Int) (i : Int)) (fun i hi h => ?_) ?_
  · refine Ev.step (fun _ => rfl) ?_
    simp only [slices_Concat_byte_byte.l0]
    have hs := hsum i (by omega)
    have hx := hl ls[i] (List.getElem_mem _)
    rw [hrd i hi, wrap_id (by omega) (by omega), wrap_id (by omega) (by omega)]
    refine Ev.pos (by omega) (Ev.pos (by omega) (Ev.pos (by omega) (Ev.neg (by omega) ?_)))
    rw [List.take_succ_eq_append_getElem hi, List.flatten_append, List.length_append] at h
    simpa using h
  · refine Ev.step (fun _ => rfl) ?_
    simp only [slices_Concat_byte_byte.l0]
    have hs := hsum ls.length (Nat.le_refl _)
    refine Ev.neg (by omega) (Ev.then (slices_Grow_eq _ (by omega) (by omega)) ?_)
    refine Ev.down (r := ls.flatten) ls.length (fun i k => slices_Concat_byte_byte.l1 k (ls.take i).flatten ls (ls.length : Int) (i : Int)) (fun i hi h => ?_) ?_
    · refine Ev.step (fun _ => rfl) ?_
      simp only [slices_Concat_byte_byte.l1]
      have hs := hsum i (by omega)
      have hx := hl ls[i] (List.getElem_mem _)
      rw [hrd i hi, wrap_id (by omega) (by omega)]
      refine Ev.pos (by omega) (Ev.pos (by omega) (Ev.pos (by omega) (Ev.pos (by omega) ?_)))
      rw [List.take_succ_eq_append_getElem hi, List.flatten_append] at h
      simpa using h
    · refine Ev.step (fun _ => rfl) ?_
      simp only [slices_Concat_byte_byte.l1]
      refine Ev.neg (by omega) (Ev.eq (Ev.now _) ?_)
      rw [List.take_length]

def putRtuN (u : Int) (p : List Int) : List Int :=
  if (0 ≤ u ∧ u ≤ 255) ∧ 1 ≤ p.length ∧ p.length ≤ 253 then (u :: p) ++ [((crcN 65535 (u :: p) % 256 : Nat) : Int), ((crcN 65535 (u :: p) / 256 : Nat) : Int)] else []
theorem crc_bytes (l : List Int) (hb : ∀ x ∈ l, 0 ≤ x ∧ x < 256) : ((crcN 65535 l : Nat) : Int) % 256 = ((crcN 65535 l % 256 : Nat) : Int) ∧ ((crcN 65535 l : Nat) : Int) / 256 % 256 = ((crcN 65535 l / 256 : Nat) : Int) := by
  have := crcN_lt l 65535 hb (by decide)
  omega
theorem spec_PutRtu_ev (u : Int) (p : List Int) (hp : p.length ≤ 1048576) (hb : ∀ x ∈ p, 0 ≤ x ∧ x < 256) : Ev (fun k => spec_PutRtu.f k u p) (putRtuN u p) := by
  simp only [spec_PutRtu.f, spec_l6Pdu_eq]
  refine Ev.then rfl ?_
  by_cases h : (0 ≤ u ∧ u ≤ 255) ∧ 1 ≤ p.length ∧ p.length ≤ 253
  · refine Ev.pos (by simpa using h) (Ev.then (a := [u % 256]) rfl ?_)
    refine Ev.pos (by simp; omega) (Ev.then rfl ?_)
    have hb2 : ∀ x ∈ u :: p, 0 ≤ x ∧ x < 256 := by
      intro x hx
      rcases List.mem_cons.1 hx with rfl | hx
      · omega
      · exact hb x hx
    rw [show u % 256 = u by omega]
    refine Ev.bind (spec_Crc_ev (u :: p) (by simp; omega) hb2) ?_
    refine Ev.then rfl (Ev.pos (by simp; omega) (Ev.eq (Ev.now _) ?_))
    rw [(crc_bytes _ hb2).1, (crc_bytes _ hb2).2]
    unfold putRtuN
    rw [if_pos h]
    rfl
  · refine Ev.neg (by simpa using h) (Ev.eq (Ev.now _) ?_)
    unfold putRtuN
    rw [if_neg h]

theorem impl_PutRtu_ev (u : Int) (p : List Int) (hp : p.length ≤ 1048576) (hb : ∀ x ∈ p, 0 ≤ x ∧ x < 256) : Ev (fun k => impl_PutRtu.f k u p) (putRtuN u p) := by
  simp only [impl_PutRtu.f, impl_pduOk_eq]
  refine Ev.then rfl ?_
  by_cases h : (0 ≤ u ∧ u ≤ 255) ∧ 1 ≤ p.length ∧ p.length ≤ 253
  · refine Ev.pos (by simpa using h) ?_
    have hb2 : ∀ x ∈ u :: p, 0 ≤ x ∧ x < 256 := by
      intro x hx
      rcases List.mem_cons.1 hx with rfl | hx
      · omega
      · exact hb x hx
    rw [show u % 256 = u by omega]
    refine Ev.bind (slices_Concat_ev [[u], p] (by simp) (by intro x hx; simp only [List.mem_cons, List.not_mem_nil, or_false] at hx; rcases hx with rfl | rfl <;> first | omega | (simp; done))) ?_
    rw [show [[u], p].flatten = u :: p by simp]
    refine Ev.bind (impl_Crc_ev (u :: p) (by simp; omega) hb2) ?_
    refine Ev.then rfl (Ev.pos (by simp; omega) (Ev.eq (Ev.now _) ?_))
    rw [(crc_bytes _ hb2).1, (crc_bytes _ hb2).2]
    unfold putRtuN
    rw [if_pos h]
  · refine Ev.neg (by simpa using h) (Ev.eq (Ev.now _) ?_)
    unfold putRtuN
    rw [if_neg h]

theorem FnExactPutRtu : laws_FnExactPutRtu.Pure := by
  intro u l w0 hmax _ hwf
  refine Ev.rounds (g := fun k => laws_FnExactPutRtu.f k u l) ?_
  have hb : ∀ x ∈ l, 0 ≤ x ∧ x < 256 := fun x hx => wf_u8 (hwf x hx)
  simp only [laws_FnExactPutRtu.f]
  refine Ev.ite (fun _ => Ev.now _) (fun hL => ?_)
  have hl : l.length ≤ 1048576 := by omega
  have hr : (putRtuN u l).length ≤ 1048580 := by
    unfold putRtuN
    split <;> simp
    omega
  have hs := spec_PutRtu_ev u l hl hb
  have hi := impl_PutRtu_ev u l hl hb
  generalize putRtuN u l = r at hr hs hi
  repeat (first
    | exact Ev.now _
    | (refine Ev.bind (laws_toByteS_ev l hl) ?_; try dsimp only)
    | (refine Ev.bind hs ?_; try dsimp only)
    | (refine Ev.bind hi ?_; try dsimp only)
    | (refine Ev.bind (laws_eqByteS_ev _ (by omega)) ?_; try dsimp only)
    | (refine Ev.bind (laws_markByteS_ev _ _ (by omega) (by omega)) ?_; try dsimp only)
    | (refine Ev.bind (laws_heldByteS_ev _ _ (by omega) (by omega)) ?_; try dsimp only)
    | refine Ev.pos trivial ?_
    | refine Ev.pos rfl ?_
    | refine Ev.neg (by omega) ?_
    | refine Ev.neg (by simp) ?_
    | (refine Ev.step (fun _ => rfl) ?_; simp only [laws_FnExactPutRtu.j0]))

end Go.Proofs.Ytjjfjeoajhdlcaa.Pure
