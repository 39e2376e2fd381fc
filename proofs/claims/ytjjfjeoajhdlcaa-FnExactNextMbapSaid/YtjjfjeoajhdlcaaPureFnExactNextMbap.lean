/- The pure statement of the law FnExactNextMbap: with rounds enough it tells true of every argument that can be read. Its parts: what the printed functions tell. -/
import Derived.Test.YtjjfjeoajhdlcaaPFnExactNextMbapx
import Derived.Test.YtjjfjeoajhdlcaaWPure
set_option linter.unusedVariables false
set_option linter.unusedSimpArgs false
namespace Go.Proofs.Ytjjfjeoajhdlcaa.Pure
open Go.RowKit Go.Proofs.Ytjjfjeoajhdlcaa.PFnExactNextMbap Go.Proofs.YtjjfjeoajhdlcaaW.PrintWords Go.Proofs.YtjjfjeoajhdlcaaW.PrintLast Go.Proofs.YtjjfjeoajhdlcaaW.Pure

theorem laws_toByteS_ev (l : List Int) (hl : l.length ≤ 1048576) : Ev (fun k => laws_toByteS.f k l) l := by
  simp only [laws_toByteS.f]
  refine Ev.pos (by omega) (Ev.pos (by omega) ?_)
  have h := copy_ev laws_toByteS.l0 l 0 (by omega) (fun a i hi ha h => Ev.step (fun k => by
    simp only [laws_toByteS.l0]
    rw [if_pos (by omega), if_pos (by omega), if_pos (by omega), Int.toNat_natCast, rd_nat l i hi]) h) (fun a k => by
    simp only [laws_toByteS.l0]
    rw [if_neg (by omega)])
  simpa using h

theorem laws_eqByteS_ev (l : List Int) (hl : l.length ≤ 4611686018427387904) : Ev (fun k => laws_eqByteS.f k l l) true := by
  simp only [laws_eqByteS.f]
  refine Ev.pos (by first | trivial | rfl) ?_
  exact same_ev (fun k i => laws_eqByteS.l0 k l l i) l hl (fun i hi h => Ev.step (fun k => by
    simp only [laws_eqByteS.l0]
    rw [if_pos (by omega), if_pos (by omega), if_pos (by omega), if_pos trivial]) h) (fun k => by
    simp only [laws_eqByteS.l0]
    rw [if_neg (by omega)])

def eByte (k : Int) : Int := k % 256
theorem laws_markByteS_ev (l : List Int) (m : Int) (h0 : 0 ≤ m) (hl : m + l.length ≤ 4611686018427387904) : Ev (fun k => laws_markByteS.f k l m) (m + l.length, marks eByte l.length m) := by
  simp only [laws_markByteS.f]
  exact mark_ev laws_markByteS.l0 eByte (fun k x m i hi => by
    simp only [laws_markByteS.l0]
    rw [if_pos (by omega), if_pos (by omega), Int.toNat_natCast]
    rfl) (fun k x m => by
    simp only [laws_markByteS.l0]
    rw [if_neg (by omega)]) l m h0 hl

theorem laws_heldByteS_ev (n : Nat) (m : Int) (h0 : 0 ≤ m) (hl : m + n ≤ 4611686018427387904) : Ev (fun k => laws_heldByteS.f k (marks eByte n m) m) (m + n) := by
  simp only [laws_heldByteS.f]
  exact held_ev laws_heldByteS.l0 eByte (fun k x m i hi h => by
    simp only [laws_heldByteS.l0]
    rw [if_pos (by omega), if_pos (by omega), if_pos (by rw [rd_nat x i hi, h]; rfl)]) (fun k x m => by
    simp only [laws_heldByteS.l0]
    rw [if_neg (by omega)]) n m h0 hl

theorem spec_l1In_eq (a b c : Int) : spec_l1In.f a b c = some (decide (b ≤ a ∧ a ≤ c)) := by
  simp only [spec_l1In.f]
  split
  · congr 1; simp only [decide_eq_decide]; omega
  · congr 1; symm; simp only [decide_eq_false_iff_not]; omega

theorem impl_in_eq (a b c : Int) : impl_in.f a b c = some (decide (b ≤ a ∧ a ≤ c)) := by
  simp only [impl_in.f]
  split
  · congr 1; simp only [decide_eq_decide]; omega
  · congr 1; symm; simp only [decide_eq_false_iff_not]; omega

theorem slices_Clone_byte (l : List Int) (hl : l.length ≤ 4611686018427) : slices_Clone_byte_byte.f l = some l := by
  simp only [slices_Clone_byte_byte.f, Option.bind_some]
  rw [if_pos (by simp; omega)]
  rfl

theorem or_bytes {a b : Int} (ha : 0 ≤ a ∧ a < 256) (hb : 0 ≤ b ∧ b < 256) : bits .or .i64 (wrap64 (wrap64 a * 256)) (wrap64 b) = a * 256 + b := by
  rw [wrap_id (x := a) (by omega) (by omega), wrap_id (x := b) (by omega) (by omega), wrap_id (by omega) (by omega)]
  exact bits_join .i64 32 (by decide) (fun _ => i64_in) 8 _ _ (by omega) (by omega) (by omega) (by omega) (by omega) (by omega)
def wordN (l : List Int) (i : Nat) : Int × Bool := if i + 2 ≤ l.length then (l.getD i 0 * 256 + l.getD (i + 1) 0, true) else (0, false)
theorem getD_byte (l : List Int) (hb : ∀ x ∈ l, 0 ≤ x ∧ x < 256) (i : Nat) : 0 ≤ l.getD i 0 ∧ l.getD i 0 < 256 := by
  by_cases h : i < l.length
  · have := hb l[i] (List.getElem_mem _)
    simpa [List.getD, List.getElem?_eq_getElem h] using this
  · simp [List.getD, List.getElem?_eq_none (Nat.le_of_not_lt h)]
theorem rd_getD (l : List Int) (i : Nat) : rd l (i : Int) = l.getD i 0 := by simp [rd]

theorem spec_WordAt_eq (l : List Int) (hl : l.length ≤ 4611686018427387904) (hb : ∀ x ∈ l, 0 ≤ x ∧ x < 256) (i : Nat) : spec_WordAt.f l (i : Int) = some (wordN l i) := by
  simp only [spec_WordAt.f, spec_l1In_eq, Option.bind_some]
  rw [wrap_id (x := (l.length : Int) - 2) (by omega) (by omega)]
  by_cases h : i + 2 ≤ l.length
  · rw [if_pos (by simp; omega), wrap_id (x := (i : Int) + 1) (by omega) (by omega), if_pos (by omega), if_pos (by omega), if_pos (by omega), if_pos (by omega)]
    rw [rd_getD, show (i : Int) + 1 = ((i + 1 : Nat) : Int) by omega, rd_getD, or_bytes (getD_byte l hb _) (getD_byte l hb _)]
    unfold wordN
    rw [if_pos h]
  · rw [if_neg (by simp; omega)]
    unfold wordN
    rw [if_neg h]

theorem impl_WordAt_eq (l : List Int) (hl : l.length ≤ 4611686018427387904) (hb : ∀ x ∈ l, 0 ≤ x ∧ x < 256) (i : Nat) : impl_WordAt.f l (i : Int) = some (wordN l i) := by
  simp only [impl_WordAt.f, impl_in_eq, Option.bind_some]
  rw [wrap_id (x := (l.length : Int) - 2) (by omega) (by omega)]
  by_cases h : i + 2 ≤ l.length
  · rw [if_pos (by simp; omega), wrap_id (x := (i : Int) + 1) (by omega) (by omega), if_pos (by omega), if_pos (by omega), if_pos (by omega), if_pos (by omega)]
    rw [rd_getD, show (i : Int) + 1 = ((i + 1 : Nat) : Int) by omega, rd_getD, or_bytes (getD_byte l hb _) (getD_byte l hb _)]
    unfold wordN
    rw [if_pos h]
  · rw [if_neg (by simp; omega)]
    unfold wordN
    rw [if_neg h]

def mbapRest (l : List Int) : Int × Int × List Int × Int × Int :=
  if 6 ≤ l.length ∧ ¬ (2 ≤ (wordN l 4).1 ∧ (wordN l 4).1 ≤ 254) then (0, 0, [], 0, 2) else
  if l.length < 6 ∨ (l.length : Int) < 6 + (wordN l 4).1 then (0, 0, [], 0, 0) else ((wordN l 0).1, l.getD 6 0, (l.take (6 + (wordN l 4).1).toNat).drop 7, 6 + (wordN l 4).1, 1)
def nextMbapN (l : List Int) : Int × Int × List Int × Int × Int := if (2 < l.length ∧ l.getD 2 0 ≠ 0) ∨ (3 < l.length ∧ l.getD 3 0 ≠ 0) then (0, 0, [], 0, 2) else mbapRest l
theorem wordN_le (l : List Int) (hb : ∀ x ∈ l, 0 ≤ x ∧ x < 256) (i : Nat) : 0 ≤ (wordN l i).1 ∧ (wordN l i).1 ≤ 65535 := by
  unfold wordN
  have := getD_byte l hb i
  have := getD_byte l hb (i + 1)
  split <;> constructor <;> dsimp only <;> omega
theorem wordN_is (l : List Int) (i : Nat) : (wordN l i).2 = decide (i + 2 ≤ l.length) := by
  unfold wordN
  split <;> simp_all
theorem spec_NextMbap_j0 (l : List Int) (hl : l.length ≤ 4611686018427387904) (hb : ∀ x ∈ l, 0 ≤ x ∧ x < 256) (b : Bool) : Ev (fun k => spec_NextMbap.j0 k l b) (if b then (0, 0, [], 0, 2) else mbapRest l) := by
  refine Ev.step (fun _ => rfl) ?_
  simp only [spec_NextMbap.j0]
  cases b with
  | true => exact Ev.now _
  | false =>
    refine Ev.neg (by decide) ?_
    have e4 := spec_WordAt_eq l hl hb 4
    have e0 := spec_WordAt_eq l hl hb 0
    have i4 := wordN_is l 4
    have w4 := wordN_le l hb 4
    have hx := getD_byte l hb 6
    refine Ev.then (a := wordN l 4) e4 ?_
    rw [i4]
    have fin : ∀ (q : Bool), q = decide (6 ≤ l.length ∧ ¬ (2 ≤ (wordN l 4).1 ∧ (wordN l 4).1 ≤ 254)) → Ev (fun k => spec_NextMbap.j1 k l (wordN l 4).1 (decide (4 + 2 ≤ l.length)) q) (mbapRest l) := by
      intro q hq
      refine Ev.step (fun _ => rfl) ?_
      simp only [spec_NextMbap.j1]
      cases q with
      | true =>
        refine Ev.pos rfl (Ev.eq (Ev.now _) ?_)
        unfold mbapRest
        rw [if_pos (of_decide_eq_true hq.symm)]
      | false =>
        have hq' := of_decide_eq_false hq.symm
        refine Ev.neg (by decide) (Ev.ite (fun h => ?_) (fun h => ?_))
        · have h6 : 6 ≤ l.length := by simpa using h
          rw [wrap_id (x := 6 + (wordN l 4).1) (by omega) (by omega)]
          refine Ev.ite (fun h2 => ?_) (fun h2 => ?_)
          · refine Ev.eq (Ev.now _) ?_
            unfold mbapRest
            rw [if_neg hq', if_pos (Or.inr h2)]
          · refine Ev.then (a := wordN l 0) e0 ?_
            refine Ev.pos (by omega) (Ev.then (a := []) rfl ?_)
            refine Ev.pos (by omega) (Ev.pos (by omega) (Ev.pos (by simp; omega) (Ev.eq (Ev.now _) ?_)))
            unfold mbapRest
            rw [if_neg hq', if_neg (by omega), show rd l 6 = l.getD 6 0 from rd_getD l 6, wrap_id (x := l.getD 6 0) (by omega) (by omega)]
            rfl
        · refine Ev.eq (Ev.now _) ?_
          unfold mbapRest
          have h6 : ¬ 6 ≤ l.length := by simpa using h
          rw [if_neg hq', if_pos (Or.inl (by omega))]
    refine Ev.ite (fun h => ?_) (fun h => ?_)
    · rw [spec_l1In_eq]
      refine Ev.then rfl (fin _ ?_)
      have h6 : 6 ≤ l.length := by simpa using h
      rw [← decide_not, decide_eq_decide]
      exact ⟨fun x => ⟨h6, x⟩, fun x => x.2⟩
    · refine fin _ ?_
      have h6 : ¬ 6 ≤ l.length := by simpa using h
      symm
      rw [decide_eq_false_iff_not]
      exact fun x => h6 x.1
theorem spec_NextMbap_ev (l : List Int) (hl : l.length ≤ 4611686018427387904) (hb : ∀ x ∈ l, 0 ≤ x ∧ x < 256) : Ev (fun k => spec_NextMbap.f k l) (nextMbapN l) := by
  simp only [spec_NextMbap.f]
  have r2 : rd l 2 = l.getD 2 0 := rd_getD l 2
  have r3 : rd l 3 = l.getD 3 0 := rd_getD l 3
  rw [r2, r3]
  have fin : ∀ b : Bool, b = decide ((2 < l.length ∧ l.getD 2 0 ≠ 0) ∨ (3 < l.length ∧ l.getD 3 0 ≠ 0)) → Ev (fun k => spec_NextMbap.j0 k l b) (nextMbapN l) := by
    intro b h
    refine Ev.eq (spec_NextMbap_j0 l hl hb b) ?_
    unfold nextMbapN
    cases b with
    | true => rw [if_pos (of_decide_eq_true h.symm)]; rfl
    | false => rw [if_neg (of_decide_eq_false h.symm)]; rfl
  refine Ev.ite (fun h => ?_) (fun h => ?_)
  · refine Ev.pos (by omega) (Ev.ite (fun h2 => ?_) (fun h2 => ?_))
    · refine Ev.ite (fun h3 => ?_) (fun h3 => ?_)
      · refine Ev.pos (by omega) (fin _ ?_)
        rw [Bool.eq_iff_iff, bne_iff_ne, decide_eq_true_eq]
        exact ⟨fun x => Or.inr ⟨by omega, x⟩, fun x => x.elim (fun y => absurd h2 y.2) (fun y => y.2)⟩
      · refine fin _ ?_
        symm
        rw [decide_eq_false_iff_not]
        omega
    · refine fin _ ?_
      symm
      rw [decide_eq_true_eq]
      exact Or.inl ⟨by omega, h2⟩
  · refine Ev.neg (by omega) (fin _ ?_)
    symm
    rw [decide_eq_false_iff_not]
    omega

theorem impl_NextMbap_j0 (l : List Int) (hl : l.length ≤ 1099511627776) (hb : ∀ x ∈ l, 0 ≤ x ∧ x < 256) (b : Bool)
    (h : b = decide ((2 < l.length ∧ l.getD 2 0 ≠ 0) ∨ (3 < l.length ∧ l.getD 3 0 ≠ 0) ∨ (6 ≤ l.length ∧ ¬ (2 ≤ (wordN l 4).1 ∧ (wordN l 4).1 ≤ 254)))) :
    Ev (fun k => impl_NextMbap.j0 k l (wordN l 0).1 (wordN l 4).1 (wordN l 4).2 b) (nextMbapN l) := by
  refine Ev.step (fun _ => rfl) ?_
  simp only [impl_NextMbap.j0]
  have w4 := wordN_le l hb 4
  have hx := getD_byte l hb 6
  rw [wordN_is l 4]
  cases b with
  | true =>
    have h' := of_decide_eq_true h.symm
    refine Ev.pos rfl (Ev.eq (Ev.now _) ?_)
    unfold nextMbapN
    by_cases h2 : (2 < l.length ∧ l.getD 2 0 ≠ 0) ∨ (3 < l.length ∧ l.getD 3 0 ≠ 0)
    · rw [if_pos h2]
    · rw [if_neg h2]
      unfold mbapRest
      rw [if_pos (h'.elim (fun y => absurd (Or.inl y) h2) (fun y => y.elim (fun z => absurd (Or.inr z) h2) id))]
  | false =>
    have h' := of_decide_eq_false h.symm
    have n1 : ¬ ((2 < l.length ∧ l.getD 2 0 ≠ 0) ∨ (3 < l.length ∧ l.getD 3 0 ≠ 0)) := fun x => h' (x.elim Or.inl (fun y => Or.inr (Or.inl y)))
    have n2 : ¬ (6 ≤ l.length ∧ ¬ (2 ≤ (wordN l 4).1 ∧ (wordN l 4).1 ≤ 254)) := fun x => h' (Or.inr (Or.inr x))
    refine Ev.neg (by decide) (Ev.ite (fun h => ?_) (fun h => ?_))
    · have h6 : 6 ≤ l.length := by simpa using h
      rw [wrap_id (x := 6 + (wordN l 4).1) (by omega) (by omega)]
      refine Ev.ite (fun h2 => ?_) (fun h2 => ?_)
      · refine Ev.eq (Ev.now _) ?_
        unfold nextMbapN mbapRest
        rw [if_neg n1, if_neg n2, if_pos (Or.inr h2)]
      · refine Ev.pos (by omega) (Ev.pos (by omega) (Ev.pos (by omega) (Ev.then (slices_Clone_byte _ (by simp; omega)) (Ev.eq (Ev.now _) ?_))))
        unfold nextMbapN mbapRest
        rw [if_neg n1, if_neg n2, if_neg (by omega), show rd l 6 = l.getD 6 0 from rd_getD l 6, wrap_id (x := l.getD 6 0) (by omega) (by omega)]
    · refine Ev.eq (Ev.now _) ?_
      have h6 : ¬ 6 ≤ l.length := by simpa using h
      unfold nextMbapN mbapRest
      rw [if_neg n1, if_neg n2, if_pos (Or.inl (by omega))]
theorem impl_NextMbap_ev (l : List Int) (hl : l.length ≤ 1099511627776) (hb : ∀ x ∈ l, 0 ≤ x ∧ x < 256) : Ev (fun k => impl_NextMbap.f k l) (nextMbapN l) := by
  simp only [impl_NextMbap.f]
  refine Ev.then (impl_WordAt_eq l (by omega) hb 0) (Ev.then (impl_WordAt_eq l (by omega) hb 4) ?_)
  have r2 : rd l 2 = l.getD 2 0 := rd_getD l 2
  have r3 : rd l 3 = l.getD 3 0 := rd_getD l 3
  have i4 := wordN_is l 4
  have fin := impl_NextMbap_j0 l hl hb
  simp only [impl_in_eq, Option.bind_some]
  rw [r2, r3]
  have t4 : (wordN l 4).2 = true ↔ 6 ≤ l.length := by rw [i4]; simp
  repeat' refine Ev.ite (fun _ => ?_) (fun _ => ?_)
  all_goals first
    | (exfalso; omega)
    | (refine fin _ ?_
       rw [Bool.eq_iff_iff]
       simp only [Bool.not_eq_true', decide_eq_true_eq, decide_eq_false_iff_not, Bool.false_eq_true, false_iff, true_iff, t4] at *
       omega)

theorem nextMbapN_len (l : List Int) (hl : l.length ≤ 1048576) : (nextMbapN l).2.2.1.length ≤ 1048576 := by
  unfold nextMbapN mbapRest
  repeat' split
  all_goals simp
  omega
theorem FnExactNextMbap : laws_FnExactNextMbap.Pure := by
  intro l hmax _ hwf
  refine Ev.rounds (g := fun k => laws_FnExactNextMbap.f k l) ?_
  have hb : ∀ x ∈ l, 0 ≤ x ∧ x < 256 := fun x hx => wf_u8 (hwf x hx)
  simp only [laws_FnExactNextMbap.f]
  refine Ev.ite (fun _ => Ev.now _) (fun hL => ?_)
  have hl : l.length ≤ 1048576 := by omega
  have hr := nextMbapN_len l hl
  have hs := spec_NextMbap_ev l (by omega) hb
  have hi := impl_NextMbap_ev l (by omega) hb
  generalize nextMbapN l = r at hr hs hi
  obtain ⟨r1, r2, r3, r4, r5⟩ := r
  dsimp only at hr
  repeat (first
    | exact Ev.now _
    | (refine Ev.bind (laws_toByteS_ev l hl) ?_; try dsimp only)
    | (refine Ev.bind hs ?_; try dsimp only)
    | (refine Ev.bind hi ?_; try dsimp only)
    | (refine Ev.bind (laws_eqByteS_ev _ (by omega)) ?_; try dsimp only)
    | (refine Ev.bind (laws_markByteS_ev _ _ (by omega) (by omega)) ?_; try dsimp only)
    | (refine Ev.bind (laws_heldByteS_ev _ _ (by omega) (by omega)) ?_; try dsimp only)
    | refine Ev.pos trivial ?_
    | refine Ev.pos rfl ?_
    | refine Ev.neg (by omega) ?_
    | refine Ev.neg (by simp) ?_
    | (refine Ev.step (fun _ => rfl) ?_; simp only [laws_FnExactNextMbap.j0, laws_FnExactNextMbap.j1, laws_FnExactNextMbap.j2]))

end Go.Proofs.Ytjjfjeoajhdlcaa.Pure
