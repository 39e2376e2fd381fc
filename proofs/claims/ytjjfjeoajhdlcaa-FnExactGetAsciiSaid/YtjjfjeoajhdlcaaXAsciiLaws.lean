/- PutAscii and GetAscii: the laws. -/
import Derived.Test.YtjjfjeoajhdlcaaXPut
namespace Go.Proofs.Ytjjfjeoajhdlcaa
open Go Go.Vi
set_option linter.unusedVariables false
set_option linter.unusedSimpArgs false
set_option maxRecDepth 100000
theorem putA_len (u : Int) (p : List Int) : (putAscii u p).length ≤ 2 * p.length + 20 := by
  unfold putAscii
  split
  · have := hexL_len (bodyA u p)
    have h2 : (bodyA u p).length = p.length + 2 := by simp [bodyA]
    simp; omega
  · simp
theorem law_FnExactPutAscii (u : Int) (_ : (Lit.int .i64 u).wf = true) (b : List Int) (hw : ∀ q0, q0 ∈ b → (Lit.int .u8 q0).wf = true) : PureC Try.prog 11 [i64v u, bytesV b] [boolv true] := by
  refine pureC_deep (Γ := lookT tbl) (il := ilist) tg drD Try.func11 rfl (by kernel_rfl) rfl (Nat.le_of_ble_eq_true rfl) rfl ?_
  conv => whnf
  refine br_i (fun h => ?_) (fun h => ?_)
  · conv => whnf
  have hb : b.length ≤ 1048576 := by simp at h; omega
  clear h
  have hB : isBytes b := fun q hq => wf_u8 (hw q hq)
  have hs := s_PutAscii u b hB
  have hm := m_PutAscii u b hB
  have e2 : PureC Try.prog 37 [bytesV b, bytesV b] [boolv true] := by simpa using eqByteS b b
  have hsz := putA_len u b
  generalize putAscii u b = R at *
  have e3 : PureC Try.prog 37 [bytesV R, bytesV R] [boolv true] := by simpa using eqByteS R R
  obtain ⟨a2, A2, B2⟩ := mkByteS b 1 (by decide) (by omega)
  obtain ⟨c1, C1, C2⟩ := mkByteS R 1 (by decide) (by omega)
  (repeat' ((conv => whnf); first | exact rfl | (refine br_i ?_ ?_; (· (intro h; exfalso; first | (simp at h; done) | (have := dlt h; omega))); intro _) | (refine br_i ?_ ?_; rotate_left; (· (intro h; exfalso; simp at h; done)); intro _) | refine br_i (fun _ => ?_) (fun _ => ?_) | refine And.intro rfl ?_ | (refine Or.inl ?_; (conv => whnf); refine call_i (hs) ?_) | (refine Or.inl ?_; (conv => whnf); refine call_i (hm) ?_) | (refine Or.inl ?_; (conv => whnf); refine call_i (toByteS b hb) ?_) | (refine Or.inl ?_; (conv => whnf); refine call_i (e2) ?_) | (refine Or.inl ?_; (conv => whnf); refine call_i (e3) ?_) | refine mark_i A2 rfl ?_ | refine mark_i C1 rfl ?_ | (refine Or.inl ?_; (conv => whnf); refine call_i (C2) ?_) | (refine And.intro ?_ ?_; · decide)); all_goals (try (conv => whnf)))
theorem cut_le (l : List Int) (i j : Int) : (cutL l i j).length ≤ l.length := by
  unfold cutL
  rw [List.length_drop, List.length_take]
  omega
theorem getA_len (b : List Int) : (getAscii b).2.1.length ≤ 255 := by
  unfold getAscii
  split
  · simp
  · dsimp only
    split
    · simp
    · split
      · simp
      · split
        · simp
        · exact Nat.le_trans (cut_le _ _ _) (by omega)
theorem law_FnExactGetAscii (b : List Int) (hw : ∀ q0, q0 ∈ b → (Lit.int .u8 q0).wf = true) : PureC Try.prog 14 [bytesV b] [boolv true] := by
  refine pureC_deep (Γ := lookT tbl) (il := ilist) tg drD Try.func14 rfl (by kernel_rfl) rfl (Nat.le_of_ble_eq_true rfl) rfl ?_
  conv => whnf
  refine br_i (fun h => ?_) (fun h => ?_)
  · conv => whnf
  have hb : b.length ≤ 1048576 := by simp at h; omega
  clear h
  have hB : isBytes b := fun q hq => wf_u8 (hw q hq)
  have hs := s_GetAscii b hB (by omega)
  have hm := m_GetAscii b hB (by omega)
  have e2 : PureC Try.prog 37 [bytesV b, bytesV b] [boolv true] := by simpa using eqByteS b b
  have hsz := getA_len b
  generalize getAscii b = R at *
  obtain ⟨i, R, j⟩ := R
  dsimp only at hs hm hsz
  have e3 : PureC Try.prog 37 [bytesV R, bytesV R] [boolv true] := by simpa using eqByteS R R
  obtain ⟨a2, A2, B2⟩ := mkByteS b 1 (by decide) (by omega)
  obtain ⟨c1, C1, C2⟩ := mkByteS R 1 (by decide) (by omega)
  (repeat' ((conv => whnf); first | exact rfl | (refine br_i ?_ ?_; (· (intro h; exfalso; first | (simp at h; done) | (have := dlt h; omega))); intro _) | (refine br_i ?_ ?_; rotate_left; (· (intro h; exfalso; simp at h; done)); intro _) | refine br_i (fun _ => ?_) (fun _ => ?_) | refine And.intro rfl ?_ | (refine Or.inl ?_; (conv => whnf); refine call_i (hs) ?_) | (refine Or.inl ?_; (conv => whnf); refine call_i (hm) ?_) | (refine Or.inl ?_; (conv => whnf); refine call_i (toByteS b hb) ?_) | (refine Or.inl ?_; (conv => whnf); refine call_i (e2) ?_) | (refine Or.inl ?_; (conv => whnf); refine call_i (e3) ?_) | refine mark_i A2 rfl ?_ | refine mark_i C1 rfl ?_ | (refine Or.inl ?_; (conv => whnf); refine call_i (C2) ?_) | (refine And.intro ?_ ?_; · decide)); all_goals (try (conv => whnf)))

end Go.Proofs.Ytjjfjeoajhdlcaa
