/- The pure statement of the law FnExactPutMbap: with rounds enough it tells true of every argument that can be read. Its parts: what the printed functions tell. -/
import Derived.Test.YtjjfjeoajhdlcaaPFnExactPutMbapx
import Derived.Test.YtjjfjeoajhdlcaaWPure
set_option linter.unusedVariables false
set_option linter.unusedSimpArgs false
namespace Go.Proofs.Ytjjfjeoajhdlcaa.Pure
open Go.RowKit Go.Proofs.Ytjjfjeoajhdlcaa.PFnExactPutMbap Go.Proofs.YtjjfjeoajhdlcaaW.PrintWords Go.Proofs.YtjjfjeoajhdlcaaW.PrintLast Go.Proofs.YtjjfjeoajhdlcaaW.Pure

theorem laws_toByteS_ev (l : List Int) (hl : l.length ≤ 1048576) : Ev (fun k => laws_toByteS.f k l) l := by
  simp only [laws_toByteS.f]
  refine Ev.pos (by omega) (Ev.pos (by omega) ?_)
  have h := copy_ev laws_toByteS.l0 l 0 (by omega) (fun a i hi ha h => Ev.step (fun k => by
    simp only [laws_toByteS.l0]
    rw [if_pos (by omega), if_pos (by omega), if_pos (by omega), Int.toNat_natCast, rd_nat l i hi]) h) (fun a k => by
    simp only [laws_toByteS.l0]
    rw [if_neg (by omega)])
  simpa using h

theorem laws_eqByteS_ev (l : List Int) (hl : l.length ≤ 4611686018427387904) : Ev (fun k => laws_eqByteS.f k l l) true := by
  simp only [laws_eqByteS.f]
  refine Ev.pos (by first | trivial | rfl) ?_
  exact same_ev (fun k i => laws_eqByteS.l0 k l l i) l hl (fun i hi h => Ev.step (fun k => by
    simp only [laws_eqByteS.l0]
    rw [if_pos (by omega), if_pos (by omega), if_pos (by omega), if_pos trivial]) h) (fun k => by
    simp only [laws_eqByteS.l0]
    rw [if_neg (by omega)])

def eByte (k : Int) : Int := k % 256
theorem laws_markByteS_ev (l : List Int) (m : Int) (h0 : 0 ≤ m) (hl : m + l.length ≤ 4611686018427387904) : Ev (fun k => laws_markByteS.f k l m) (m + l.length, marks eByte l.length m) := by
  simp only [laws_markByteS.f]
  exact mark_ev laws_markByteS.l0 eByte (fun k x m i hi => by
    simp only [laws_markByteS.l0]
    rw [if_pos (by omega), if_pos (by omega), Int.toNat_natCast]
    rfl) (fun k x m => by
    simp only [laws_markByteS.l0]
    rw [if_neg (by omega)]) l m h0 hl

theorem laws_heldByteS_ev (n : Nat) (m : Int) (h0 : 0 ≤ m) (hl : m + n ≤ 4611686018427387904) : Ev (fun k => laws_heldByteS.f k (marks eByte n m) m) (m + n) := by
  simp only [laws_heldByteS.f]
  exact held_ev laws_heldByteS.l0 eByte (fun k x m i hi h => by
    simp only [laws_heldByteS.l0]
    rw [if_pos (by omega), if_pos (by omega), if_pos (by rw [rd_nat x i hi, h]; rfl)]) (fun k x m => by
    simp only [laws_heldByteS.l0]
    rw [if_neg (by omega)]) n m h0 hl

theorem spec_l1In_eq (a b c : Int) : spec_l1In.f a b c = some (decide (b ≤ a ∧ a ≤ c)) := by
  simp only [spec_l1In.f]
  split
  · congr 1; simp only [decide_eq_decide]; omega
  · congr 1; symm; simp only [decide_eq_false_iff_not]; omega

theorem impl_in_eq (a b c : Int) : impl_in.f a b c = some (decide (b ≤ a ∧ a ≤ c)) := by
  simp only [impl_in.f]
  split
  · congr 1; simp only [decide_eq_decide]; omega
  · congr 1; symm; simp only [decide_eq_false_iff_not]; omega

theorem impl_isWord_eq (a : Int) : impl_isWord.f a = some (decide (0 ≤ a ∧ a ≤ 65535)) := by
  simp only [impl_isWord.f, impl_in_eq, Option.bind_some]

theorem spec_l6Pdu_eq (a : Int) (l : List Int) : spec_l6Pdu.f a l = some (decide ((0 ≤ a ∧ a ≤ 255) ∧ 1 ≤ l.length ∧ l.length ≤ 253)) := by
  simp only [spec_l6Pdu.f, spec_l1In_eq, Option.bind_some]
  by_cases h : 0 ≤ a ∧ a ≤ 255
  · rw [if_pos (by simpa using h)]
    congr 1
    simp only [decide_eq_decide]
    omega
  · rw [if_neg (by simpa using h)]
    congr 1
    symm
    simp only [decide_eq_false_iff_not]
    omega

theorem impl_pduOk_eq (a : Int) (l : List Int) : impl_pduOk.f a l = some (decide ((0 ≤ a ∧ a ≤ 255) ∧ 1 ≤ l.length ∧ l.length ≤ 253)) := by
  simp only [impl_pduOk.f, impl_in_eq, Option.bind_some]
  by_cases h : 0 ≤ a ∧ a ≤ 255
  · rw [if_pos (by simpa using h)]
    congr 1
    simp only [decide_eq_decide]
    omega
  · rw [if_neg (by simpa using h)]
    congr 1
    symm
    simp only [decide_eq_false_iff_not]
    omega

theorem slices_Grow_eq (a : Int) (h0 : 0 ≤ a) (h1 : a ≤ 1099511627776) : slices_Grow_byte_byte.f [] a = some [] := by
  simp only [slices_Grow_byte_byte.f]
  rw [wrap_id (by omega) (by omega), if_neg (by omega)]
  have h2 : a.toNat < 140737488355328 := by omega
  split
  · simp [h0, h2]
  · rfl

theorem slices_Concat_ev (ls : List (List Int)) (hn : ls.length ≤ 1000) (hl : ∀ x ∈ ls, x.length ≤ 2097152) : Ev (fun k => slices_Concat_byte_byte.f k ls) ls.flatten := by
  have hsum : ∀ i, i ≤ ls.length → ((ls.take i).flatten).length ≤ i * 2097152 := by
    intro i
    induction i with
    | zero => intro _; simp
    | succ i ih =>
      intro hi
      rw [List.take_succ_eq_append_getElem (by omega), List.flatten_append, List.length_append]
      have := ih (by omega)
      have := hl ls[i] (List.getElem_mem _)
      simp only [List.flatten_cons, List.flatten_nil, List.append_nil]
      omega
  have hrd : ∀ (i : Nat) (h : i < ls.length), rd_L1 ls (i : Int) = ls[i] := fun i h => by simp [rd_L1, h]
  simp only [slices_Concat_byte_byte.f]
  refine Ev.down (r := ls.flatten) ls.length (fun i k => slices_Concat_byte_byte.l0 k ls (((ls.take i).flatten.length : Nat) : Int) ls (ls.length : Int) (i : Int)) (fun i hi h => ?_) ?_
  · refine Ev.step (fun _ => rfl) ?_
    simp only [slices_Concat_byte_byte.l0]
    have hs := hsum i (by omega)
    have hx := hl ls[i] (List.getElem_mem _)
    rw [hrd i hi, wrap_id (by omega) (by omega), wrap_id (by omega) (by omega)]
    refine Ev.pos (by omega) (Ev.pos (by omega) (Ev.pos (by omega) (Ev.neg (by omega) ?_)))
    rw [List.take_succ_eq_append_getElem hi, List.flatten_append, List.length_append] at h
    simpa using h
  · refine Ev.step (fun _ => rfl) ?_
    simp only [slices_Concat_byte_byte.l0]
    have hs := hsum ls.length (Nat.le_refl _)
    refine Ev.neg (by omega) (Ev.then (slices_Grow_eq _ (by omega) (by omega)) ?_)
    refine Ev.down (r := ls.flatten) ls.length (fun i k => slices_Concat_byte_byte.l1 k (ls.take i).flatten ls (ls.length : Int) (i : Int)) (fun i hi h => ?_) ?_
    · refine Ev.step (fun _ => rfl) ?_
      simp only [slices_Concat_byte_byte.l1]
      have hs := hsum i (by omega)
      have hx := hl ls[i] (List.getElem_mem _)
      rw [hrd i hi, wrap_id (by omega) (by omega)]
      refine Ev.pos (by omega) (Ev.pos (by omega) (Ev.pos (by omega) (Ev.pos (by omega) ?_)))
      rw [List.take_succ_eq_append_getElem hi, List.flatten_append] at h
      simpa using h
    · refine Ev.step (fun _ => rfl) ?_
      simp only [slices_Concat_byte_byte.l1]
      refine Ev.neg (by omega) (Ev.eq (Ev.now _) ?_)
      rw [List.take_length]

theorem spec_PutWord_eq (l : List Int) (a : Int) (h0 : 0 ≤ a) (h1 : a ≤ 65535) (hl : l.length ≤ 1099511627776) : spec_PutWord.f l a = some (l ++ [a / 256, a % 256]) := by
  simp only [spec_PutWord.f, Option.bind_some]
  have hb : bits .and .i64 a 65535 = a := by
    obtain ⟨n, rfl⟩ := Int.eq_ofNat_of_zero_le h0
    have := bits_and64 n 65535 (by omega) (by decide)
    rw [Nat.and_two_pow_sub_one_eq_mod n 16] at this
    rw [show (65535 : Int) = ((65535 : Nat) : Int) by rfl, this]
    omega
  rw [hb]
  rw [if_pos (by simp; omega), if_pos (by simp; omega)]
  rw [show a / 256 % 256 = a / 256 by omega]
  rfl

theorem impl_PutWord_eq (l : List Int) (a : Int) (h0 : 0 ≤ a) (h1 : a ≤ 65535) (hl : l.length ≤ 1099511627776) : impl_PutWord.f l a = some (l ++ [a / 256, a % 256]) := by
  simp only [impl_PutWord.f, Option.bind_some]
  rw [if_pos (by simp; omega), if_pos (by simp; omega)]
  rw [show a / 256 % 256 = a / 256 by omega]
  rfl

def putMbapN (a u : Int) (p : List Int) : List Int :=
  if (0 ≤ a ∧ a ≤ 65535) ∧ (0 ≤ u ∧ u ≤ 255) ∧ 1 ≤ p.length ∧ p.length ≤ 253 then [a / 256, a % 256, 0, 0, ((p.length : Int) + 1) / 256, ((p.length : Int) + 1) % 256, u] ++ p else []
theorem spec_PutMbap_ev (a u : Int) (p : List Int) : Ev (fun k => spec_PutMbap.f k a u p) (putMbapN a u p) := by
  simp only [spec_PutMbap.f, spec_l6Pdu_eq, spec_l1In_eq]
  refine Ev.then rfl ?_
  have bad : ¬ ((0 ≤ a ∧ a ≤ 65535) ∧ (0 ≤ u ∧ u ≤ 255) ∧ 1 ≤ p.length ∧ p.length ≤ 253) → Ev (fun k => spec_PutMbap.j0 k a u p true) (putMbapN a u p) := by
    intro h
    refine Ev.step (fun _ => rfl) ?_
    simp only [spec_PutMbap.j0]
    refine Ev.pos trivial (Ev.eq (Ev.now _) ?_)
    unfold putMbapN
    rw [if_neg h]
  refine Ev.ite (fun ha => ?_) (fun ha => ?_)
  · have ha' : 0 ≤ a ∧ a ≤ 65535 := by simpa using ha
    refine Ev.then rfl ?_
    by_cases h : (0 ≤ u ∧ u ≤ 255) ∧ 1 ≤ p.length ∧ p.length ≤ 253
    · rw [decide_eq_true h]
      refine Ev.step (fun _ => rfl) ?_
      simp only [spec_PutMbap.j0]
      refine Ev.neg (by simp) ?_
      rw [wrap_id (by omega) (by omega)]
      refine Ev.then (spec_PutWord_eq _ _ (by omega) (by omega) (by simp)) ?_
      refine Ev.then (spec_PutWord_eq _ _ (by omega) (by omega) (by simp)) ?_
      refine Ev.then (spec_PutWord_eq _ _ (by omega) (by omega) (by simp)) ?_
      refine Ev.pos (by simp) (Ev.then rfl (Ev.pos (by simp; omega) (Ev.eq (Ev.now _) ?_)))
      unfold putMbapN
      rw [if_pos ⟨ha', h⟩, show u % 256 = u by omega]
      rfl
    · rw [decide_eq_false h]
      exact bad (fun x => h x.2)
  · exact bad (fun x => ha (by simpa using x.1))

theorem putWords3 (a b c : Int) (ha : 0 ≤ a ∧ a ≤ 65535) (hb : 0 ≤ b ∧ b ≤ 65535) (hc : 0 ≤ c ∧ c ≤ 65535) : Ev (fun k => impl_putWords.f k [] [a, b, c]) [a / 256, a % 256, b / 256, b % 256, c / 256, c % 256] := by
  simp only [impl_putWords.f]
  have w1 : wrap64 (0 + 1) = 1 := wrap_id (by decide) (by decide)
  have w2 : wrap64 (1 + 1) = 2 := wrap_id (by decide) (by decide)
  have w3 : wrap64 (2 + 1) = 3 := wrap_id (by decide) (by decide)
  refine Ev.step (fun _ => rfl) ?_
  simp only [impl_putWords.l0]
  refine Ev.pos (by simp) (Ev.pos (by omega) (Ev.pos (by simp) (Ev.then (impl_PutWord_eq _ _ ha.1 ha.2 (by simp)) ?_)))
  rw [w1]
  refine Ev.step (fun _ => rfl) ?_
  simp only [impl_putWords.l0]
  refine Ev.pos (by simp) (Ev.pos (by omega) (Ev.pos (by simp) (Ev.then (impl_PutWord_eq _ _ hb.1 hb.2 (by simp)) ?_)))
  rw [w2]
  refine Ev.step (fun _ => rfl) ?_
  simp only [impl_putWords.l0]
  refine Ev.pos (by simp) (Ev.pos (by omega) (Ev.pos (by simp) (Ev.then (impl_PutWord_eq _ _ hc.1 hc.2 (by simp)) ?_)))
  rw [w3]
  refine Ev.step (fun _ => rfl) ?_
  simp only [impl_putWords.l0]
  exact Ev.neg (by simp) (Ev.now _)
theorem impl_PutMbap_ev (a u : Int) (p : List Int) : Ev (fun k => impl_PutMbap.f k a u p) (putMbapN a u p) := by
  simp only [impl_PutMbap.f, impl_pduOk_eq, impl_isWord_eq]
  refine Ev.then rfl ?_
  have bad : ¬ ((0 ≤ a ∧ a ≤ 65535) ∧ (0 ≤ u ∧ u ≤ 255) ∧ 1 ≤ p.length ∧ p.length ≤ 253) → Ev (fun k => impl_PutMbap.j0 k a u p true) (putMbapN a u p) := by
    intro h
    refine Ev.step (fun _ => rfl) ?_
    simp only [impl_PutMbap.j0]
    refine Ev.pos trivial (Ev.eq (Ev.now _) ?_)
    unfold putMbapN
    rw [if_neg h]
  refine Ev.ite (fun ha => ?_) (fun ha => ?_)
  · have ha' : 0 ≤ a ∧ a ≤ 65535 := by simpa using ha
    refine Ev.then rfl ?_
    by_cases h : (0 ≤ u ∧ u ≤ 255) ∧ 1 ≤ p.length ∧ p.length ≤ 253
    · rw [decide_eq_true h]
      refine Ev.step (fun _ => rfl) ?_
      simp only [impl_PutMbap.j0]
      refine Ev.neg (by simp) ?_
      rw [wrap_id (by omega) (by omega)]
      refine Ev.bind (putWords3 _ _ _ (by omega) (by omega) (by omega)) ?_
      refine Ev.bind (slices_Concat_ev _ (by simp) (by intro x hx; simp only [List.mem_cons, List.not_mem_nil, or_false] at hx; rcases hx with rfl | rfl | rfl <;> first | omega | (simp; done))) ?_
      refine Ev.eq (Ev.now _) ?_
      unfold putMbapN
      rw [if_pos ⟨ha', h⟩, show u % 256 = u by omega]
      simp
    · rw [decide_eq_false h]
      exact bad (fun x => h x.2)
  · exact bad (fun x => ha (by simpa using x.1))

theorem FnExactPutMbap : laws_FnExactPutMbap.Pure := by
  intro a u l w0 w1 hmax _ hwf
  refine Ev.rounds (g := fun k => laws_FnExactPutMbap.f k a u l) ?_
  simp only [laws_FnExactPutMbap.f]
  refine Ev.ite (fun _ => Ev.now _) (fun hL => ?_)
  have hl : l.length ≤ 1048576 := by omega
  have hr : (putMbapN a u l).length ≤ 1048583 := by
    unfold putMbapN
    split <;> simp
    omega
  have hs := spec_PutMbap_ev a u l
  have hi := impl_PutMbap_ev a u l
  generalize putMbapN a u l = r at hr hs hi
  repeat (first
    | exact Ev.now _
    | (refine Ev.bind (laws_toByteS_ev l hl) ?_; try dsimp only)
    | (refine Ev.bind hs ?_; try dsimp only)
    | (refine Ev.bind hi ?_; try dsimp only)
    | (refine Ev.bind (laws_eqByteS_ev _ (by omega)) ?_; try dsimp only)
    | (refine Ev.bind (laws_markByteS_ev _ _ (by omega) (by omega)) ?_; try dsimp only)
    | (refine Ev.bind (laws_heldByteS_ev _ _ (by omega) (by omega)) ?_; try dsimp only)
    | refine Ev.pos trivial ?_
    | refine Ev.pos rfl ?_
    | refine Ev.neg (by omega) ?_
    | refine Ev.neg (by simp) ?_
    | (refine Ev.step (fun _ => rfl) ?_; simp only [laws_FnExactPutMbap.j0]))

end Go.Proofs.Ytjjfjeoajhdlcaa.Pure
