/- Frames on streams: what the two packages read of bytes. -/
import Derived.Test.YtoccphgempbdeaaXLineOk
namespace Go.Proofs.Ytoccphgempbdeaa
open Go Go.Vi
set_option linter.unusedVariables false
set_option linter.unusedSimpArgs false
set_option maxRecDepth 100000
abbrev wC (b : Int) : Int := IntKind.i64.wrap b
def w16 (a b : Int) : Int := IntKind.i64.wrap (BitVec.ofInt IntKind.i64.bits (IntKind.i64.wrap (IntKind.i64.wrap a * 2 ^ min (Int.toNat 8) IntKind.i64.bits)) ||| BitVec.ofInt IntKind.i64.bits (IntKind.i64.wrap b)).toNat
def wordAt (l : List Int) (i : Int) : Int × Bool := if inB i 0 (wrap64 ((l.length : Int) - 2)) then (w16 (bAt l i) (bAt l (wrap64 (i + 1))), true) else (0, false)
theorem s_WordAt (l : List Int) (i : Int) : PureC Try.prog 101 [bytesV l, i64v i] [i64v (wordAt l i).1, boolv (wordAt l i).2] := by
  refine pureC_fit ⟨_, Try.func101, by kernel_rfl, rfl⟩ fun hf => ?_
  have hl : l.length ≤ 9223372036854775807 := fits_len (hf (bytesV l) (by simp))
  refine pureC_of (Γ := lookT tbl) (il := ilist) tg dr Try.func101 rfl (by kernel_rfl) rfl (Nat.le_of_ble_eq_true rfl) ?_
  (repeat' ((conv => whnf); first | refine br_i (fun _ => ?_) (fun _ => ?_) | (refine cur_leaf rfl rfl rfl ?_ ?_; · first | assumption | omega | exact hw ‹_›) | refine leaf_i rfl rfl ?_ | refine And.intro rfl ?_ | refine call_i (s_in _ _ _) ?_ | (refine Or.inl ?_; (conv => whnf); refine call_i (s_in _ _ _) ?_) | (refine ⟨_, idx_b l i (by simp [inB, wrap64, wrap_def] at *; omega), ?_⟩) | (refine ⟨_, idx_b l (IntKind.i64.wrap (i + 1)) (by simp [inB, wrap64, wrap_def] at *; omega), ?_⟩) | (refine And.intro ?_ ?_; · decide)))
  all_goals (rename_i h; rw [List.length_map] at h; unfold wordAt; cases hb : inB i 0 (wrap64 ((l.length : Int) - 2)) <;> first | rfl | (exact absurd (show (!inB i 0 (wrap64 ((l.length : Int) - 2))) = _ from h) (by rw [hb]; decide)))
theorem m_WordAt (l : List Int) (i : Int) : PureC Try.prog 104 [bytesV l, i64v i] [i64v (wordAt l i).1, boolv (wordAt l i).2] := by
  refine pureC_fit ⟨_, Try.func104, by kernel_rfl, rfl⟩ fun hf => ?_
  have hl : l.length ≤ 9223372036854775807 := fits_len (hf (bytesV l) (by simp))
  refine pureC_of (Γ := lookT tbl) (il := ilist) tg dr Try.func104 rfl (by kernel_rfl) rfl (Nat.le_of_ble_eq_true rfl) ?_
  (repeat' ((conv => whnf); first | refine br_i (fun _ => ?_) (fun _ => ?_) | (refine cur_leaf rfl rfl rfl ?_ ?_; · first | assumption | omega | exact hw ‹_›) | refine leaf_i rfl rfl ?_ | refine And.intro rfl ?_ | refine call_i (m_in _ _ _) ?_ | (refine Or.inl ?_; (conv => whnf); refine call_i (m_in _ _ _) ?_) | (refine ⟨_, idx_b l i (by simp [inB, wrap64, wrap_def] at *; omega), ?_⟩) | (refine ⟨_, idx_b l (IntKind.i64.wrap (i + 1)) (by simp [inB, wrap64, wrap_def] at *; omega), ?_⟩) | (refine And.intro ?_ ?_; · decide)))
  all_goals (rename_i h; rw [List.length_map] at h; unfold wordAt; cases hb : inB i 0 (wrap64 ((l.length : Int) - 2)) <;> first | rfl | (exact absurd (show (!inB i 0 (wrap64 ((l.length : Int) - 2))) = _ from h) (by rw [hb]; decide)))
/-- The next frame of a stream. -/
structure NM where
  num : Int
  unit : Int
  pdu : List Int
  n : Int
  code : Int
def NM.vs (x : NM) : List VV := [i64v x.num, i64v x.unit, bytesV x.pdu, i64v x.n, i64v x.code]
def nmBad (l : List Int) : Bool := (decide ((l.length : Int) > 2) && bAt l 2 != 0) || (decide ((l.length : Int) > 3) && bAt l 3 != 0) || ((wordAt l 4).2 && !inB (wordAt l 4).1 2 254)
def nmWait (l : List Int) : Bool := !(wordAt l 4).2 || decide ((l.length : Int) < wrap64 (6 + (wordAt l 4).1))
def nextMbap (l : List Int) : NM :=
  if nmBad l then ⟨0, 0, [], 0, 2⟩ else if nmWait l then ⟨0, 0, [], 0, 0⟩ else
  ⟨(wordAt l 0).1, wC (bAt l 6), cutL l 7 (wrap64 (6 + (wordAt l 4).1)), wrap64 (6 + (wordAt l 4).1), 1⟩
theorem nm_bad {l : List Int} (h : nmBad l = true) : nextMbap l = ⟨0, 0, [], 0, 2⟩ := by simp [nextMbap, h]
theorem nm_wait {l : List Int} (h : nmBad l = false) (h2 : nmWait l = true) : nextMbap l = ⟨0, 0, [], 0, 0⟩ := by simp [nextMbap, h, h2]
theorem nm_good {l : List Int} (h : nmBad l = false) (h2 : nmWait l = false) : nextMbap l = ⟨(wordAt l 0).1, wC (bAt l 6), cutL l 7 (wrap64 (6 + (wordAt l 4).1)), wrap64 (6 + (wordAt l 4).1), 1⟩ := by simp [nextMbap, h, h2]
theorem nm_fact {l : List Int} (h : nmBad l = false) (h2 : nmWait l = false) : 2 ≤ (wordAt l 4).1 ∧ (wordAt l 4).1 ≤ 254 ∧ wrap64 (6 + (wordAt l 4).1) = 6 + (wordAt l 4).1 ∧ 6 + (wordAt l 4).1 ≤ l.length := by
  simp [nmBad, nmWait] at h h2
  have h3 := h.2 h2.1
  simp [inB] at h3
  have h4 : wrap64 (6 + (wordAt l 4).1) = 6 + (wordAt l 4).1 := wrap_ok (by omega) (by omega)
  rw [h4] at h2
  exact ⟨by omega, by omega, h4, by omega⟩
theorem s_NextMbap (l : List Int) : PureC Try.prog 87 [bytesV l] (nextMbap l).vs := by
  refine pureC_fit ⟨_, Try.func87, by kernel_rfl, rfl⟩ fun hf => ?_
  have hl : l.length ≤ 9223372036854775807 := fits_len (hf (bytesV l) (by simp))
  refine pureC_of (Γ := lookT tbl) (il := ilist) tg dr Try.func87 rfl (by kernel_rfl) rfl (Nat.le_of_ble_eq_true rfl) ?_
  (repeat' ((conv => whnf); first | refine br_i (fun _ => ?_) (fun _ => ?_) | (refine cur_leaf rfl rfl rfl ?_ ?_; · first | assumption | omega | exact hw ‹_›) | refine leaf_i rfl rfl ?_ | refine And.intro rfl ?_ | refine call_i (s_in _ _ _) ?_ | (refine Or.inl ?_; (conv => whnf); refine call_i (s_in _ _ _) ?_) | refine call_i (s_WordAt l _) ?_ | (refine Or.inl ?_; (conv => whnf); refine call_i (s_WordAt l _) ?_) | (refine ⟨_, idx_b l 2 (by simp at *; omega), ?_⟩) | (refine ⟨_, idx_b l 3 (by simp at *; omega), ?_⟩) | (refine And.intro ?_ ?_; · decide)))
  all_goals try (rw [nm_bad (by (first | (simp_all [nmBad]; done) | (simp_all [nmBad]; omega)))]; rfl)
  all_goals try (rw [nm_wait (by (first | (simp_all [nmBad]; done) | (simp_all [nmBad]; omega))) (by (first | (simp_all [nmWait]; done) | (simp_all [nmWait]; omega)))]; rfl)
  all_goals (have hb : nmBad l = false := by (first | (simp_all [nmBad]; done) | (simp_all [nmBad]; omega)))
  all_goals (have hw : nmWait l = false := by (first | (simp_all [nmWait]; done) | (simp_all [nmWait]; omega)))
  all_goals (obtain ⟨f1, f2, f3, f4⟩ := nm_fact hb hw; have f5 : IntKind.i64.wrap (6 + (wordAt l 4).1) = 6 + (wordAt l 4).1 := f3; rw [nm_good hb hw])
  all_goals (repeat' ((conv => whnf); first | refine br_i (fun _ => ?_) (fun _ => ?_) | (refine cur_leaf rfl rfl rfl ?_ ?_; · first | assumption | omega | exact hw ‹_›) | refine leaf_i rfl rfl ?_ | refine And.intro rfl ?_ | (refine ⟨_, idx_b l 6 (by omega), ?_⟩) | (refine ⟨_, cut_b byteEl 1 l 7 _ (by rw [f5]; omega), ?_⟩) | (refine ⟨⟨rfl, flat_byte _⟩, ?_⟩) | (refine ⟨_, ⟨by have := cutL_len l 7 (6 + (wordAt l 4).1) (by omega); show (0 + ((cutL l 7 (IntKind.i64.wrap (6 + (wordAt l 4).1))).map byteEl).length) * 1 ≤ 140737488355328; rw [List.length_map, f5]; omega, rfl⟩, ?_⟩) | (refine And.intro ?_ ?_; · decide)))
  all_goals rfl
theorem m_Clone (l : List Int) (hl : l.length ≤ 70368744177664) : PureC Try.prog 92 [bytesV l] [bytesV l] := by
  refine pureC_of (Γ := lookT tbl) (il := ilist) tg dr Try.func92 rfl (by kernel_rfl) rfl (Nat.le_of_ble_eq_true rfl) ?_
  conv => whnf
  refine ⟨⟨_, _, rfl, rfl⟩, fun b hb => ?_⟩
  conv => whnf
  refine br_i (fun h => ?_) (fun h => ?_) <;> conv => whnf
  · have h1 := hb (by simpa using h)
    simp at h1
    subst h1
    exact leaf_i rfl rfl rfl
  · refine ⟨⟨rfl, flat_byte l⟩, ?_⟩
    conv => whnf
    refine ⟨l.map byteEl, ⟨by show (0 + (l.map byteEl).length) * 1 ≤ 140737488355328; rw [List.length_map]; omega, rfl⟩, ?_⟩
    conv => whnf
    exact leaf_i rfl rfl rfl
theorem m_NextMbap (l : List Int) : PureC Try.prog 93 [bytesV l] (nextMbap l).vs := by
  refine pureC_fit ⟨_, Try.func93, by kernel_rfl, rfl⟩ fun hf => ?_
  have hl : l.length ≤ 9223372036854775807 := fits_len (hf (bytesV l) (by simp))
  refine pureC_of (Γ := lookT tbl) (il := ilist) tg dr Try.func93 rfl (by kernel_rfl) rfl (Nat.le_of_ble_eq_true rfl) ?_
  (repeat' ((conv => whnf); first | refine br_i (fun _ => ?_) (fun _ => ?_) | (refine cur_leaf rfl rfl rfl ?_ ?_; · first | assumption | omega | exact hw ‹_›) | refine leaf_i rfl rfl ?_ | refine And.intro rfl ?_ | refine call_i (m_in _ _ _) ?_ | (refine Or.inl ?_; (conv => whnf); refine call_i (m_in _ _ _) ?_) | refine call_i (m_WordAt l _) ?_ | (refine Or.inl ?_; (conv => whnf); refine call_i (m_WordAt l _) ?_) | (refine ⟨_, idx_b l 2 (by simp at *; omega), ?_⟩) | (refine ⟨_, idx_b l 3 (by simp at *; omega), ?_⟩) | (refine And.intro ?_ ?_; · decide)))
  all_goals try (rw [nm_bad (by (first | (simp_all [nmBad]; done) | (simp_all [nmBad]; omega)))]; rfl)
  all_goals try (rw [nm_wait (by (first | (simp_all [nmBad]; done) | (simp_all [nmBad]; omega))) (by (first | (simp_all [nmWait]; done) | (simp_all [nmWait]; omega)))]; rfl)
  all_goals (have hb : nmBad l = false := by (first | (simp_all [nmBad]; done) | (simp_all [nmBad]; omega)))
  all_goals (have hw : nmWait l = false := by (first | (simp_all [nmWait]; done) | (simp_all [nmWait]; omega)))
  all_goals (obtain ⟨f1, f2, f3, f4⟩ := nm_fact hb hw; have f5 : IntKind.i64.wrap (6 + (wordAt l 4).1) = 6 + (wordAt l 4).1 := f3; rw [nm_good hb hw])
  all_goals (repeat' ((conv => whnf); first | refine br_i (fun _ => ?_) (fun _ => ?_) | (refine cur_leaf rfl rfl rfl ?_ ?_; · first | assumption | omega | exact hw ‹_›) | refine leaf_i rfl rfl ?_ | refine And.intro rfl ?_ | (refine ⟨_, idx_b l 6 (by omega), ?_⟩) | (refine ⟨_, cut_b byteEl 1 l 7 _ (by rw [f5]; omega), ?_⟩) | refine call_i (m_Clone (cutL l 7 (IntKind.i64.wrap (6 + (wordAt l 4).1))) (by have := cutL_len l 7 (6 + (wordAt l 4).1) (by omega); rw [f5]; omega)) ?_ | (refine Or.inl ?_; (conv => whnf); refine call_i (m_Clone (cutL l 7 (IntKind.i64.wrap (6 + (wordAt l 4).1))) (by have := cutL_len l 7 (6 + (wordAt l 4).1) (by omega); rw [f5]; omega)) ?_) | (refine And.intro ?_ ?_; · decide)))
  all_goals rfl

end Go.Proofs.Ytoccphgempbdeaa
